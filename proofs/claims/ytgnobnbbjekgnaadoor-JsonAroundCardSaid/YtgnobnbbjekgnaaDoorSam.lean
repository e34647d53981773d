import Derived.Test.YtgnobnbbjekgnaaDoorTwn
/- glossatorref03.Same: are two values the same, the walk. -/
namespace Go.Proofs.YtgnobnbbjekgnaaDoor
open Go.RowKit
set_option linter.unusedVariables false
attribute [local go_sem ↓] Go.wp_at_zero Go.wp_at_succ

/-- Two boxes that stay. -/
structure SamAt (w0 : World) (ca cb : Array Value) (wx : World) : Prop where
  bl : Below w0.heap.size w0 wx
  bx : wx.heap[w0.heap.size]? = some (.cells ca 25 (0, 0))
  bq : wx.heap[w0.heap.size + 1]? = some (.cells cb 25 (0, 0))
theorem SamAt.step {w0 wx wy : World} {ca cb : Array Value} (h : SamAt w0 ca cb wx) (hg : wx.grownBy wy none) : SamAt w0 ca cb wy where
  bl := h.bl.grown hg (by have := h.bl.size; omega) (fun k e => by cases e)
  bx := blk_grown h.bx hg (fun e => by cases e)
  bq := blk_grown h.bq hg (fun e => by cases e)
theorem SamAt.begin (w : World) (ca cb : Array Value) : SamAt w ca cb ((w.alloc (.cells ca 25)).alloc (.cells cb 25)) := by
  refine ⟨gb_below (gb_alloc (gb_alloc (World.grownBy.refl _ _) _) _), blk_alloc (blk_new _ _) _, ?_⟩
  have := blk_new (w.alloc (.cells ca 25)) (.cells cb 25)
  rw [World.size_alloc] at this
  exact this

theorem str_ne {s t : ByteArray} (h : s ≠ t) : (s.toList == t.toList) = false := by
  rw [beq_eq_false_iff_ne]
  intro h'
  rw [ByteArray.toList_eq, ByteArray.toList_eq] at h'
  exact h (by
    cases s; cases t
    simp only at h'
    rw [Array.toList_inj] at h'
    rw [h'])
theorem str_ne' {s t : ByteArray} (h : s ≠ t) : (s.toList != t.toList) = true := by rw [bne, str_ne h]; rfl

theorem sameL_len : ∀ {x y : List JV}, JV.sameL x y = true → x.length = y.length
  | [], [], _ => rfl
  | a :: r, b :: r', h => by simp only [JV.sameL, Bool.and_eq_true] at h; rw [List.length_cons, List.length_cons, sameL_len h.2]
  | [], _ :: _, h => by simp [JV.sameL] at h
  | _ :: _, [], h => by simp [JV.sameL] at h
theorem sameF_len : ∀ {x y : List (ByteArray × JV)}, JV.sameF x y = true → x.length = y.length
  | [], [], _ => rfl
  | (n, a) :: r, (m, b) :: r', h => by simp only [JV.sameF, Bool.and_eq_true] at h; rw [List.length_cons, List.length_cons, sameF_len h.2]
  | [], _ :: _, h => by simp [JV.sameF] at h
  | _ :: _, [], h => by simp [JV.sameF] at h
theorem drop_at {α : Type} {l : List α} {q : Nat} {x : α} (h : l[q]? = some x) : l.drop q = x :: l.drop (q + 1) := by
  obtain ⟨hl, hx⟩ := List.getElem?_eq_some_iff.1 h
  rw [List.drop_eq_getElem_cons hl, hx]

def SameOk (a : JV) : Prop := ∀ (b : JV) (ok ok' : Nat → Prop) (fr fr' : Prop) (va vb : Value) (w : World), bndV 262144 a → bndV 262144 b → SeeV ok fr w a va → SeeV ok' fr' w b vb →
  Calls Tryd.prog 9 #[va, vb] w fun e w' => e = .returned (.bool (JV.same a b)) ∧ Below w.heap.size w w'

set_option maxRecDepth 100000 in
set_option maxHeartbeats 4000000 in
theorem same_step (k : Int) (t : ByteArray) (l : List JV) (f : List (ByteArray × JV)) (hl : ∀ v, v ∈ l → SameOk v) (hf : ∀ n v, (n, v) ∈ f → SameOk v) : SameOk (.mk k t l f) := by
  intro b ok ok' fr fr' va vb w hba hbb hva hvb
  cases b with
  | mk k' t' l' f' =>
  simp only [bndV] at hba hbb
  obtain ⟨hn1, hn2, hbl, hbf⟩ := hba
  obtain ⟨hn1', hn2', hbl', hbf'⟩ := hbb
  simp only [SeeV] at hva hvb
  obtain ⟨la, lc, fa, fc, xs, ys, rfl, ho1, hr1, ho2, hr2⟩ := hva
  obtain ⟨la', lc', fa', fc', xs', ys', rfl, ho1', hr1', ho2', hr2'⟩ := hvb
  obtain ⟨r, hR⟩ : ∃ r, JV.same (.mk k t l f) (.mk k' t' l' f') = r := ⟨_, rfl⟩
  rw [hR]
  simp only [JV.same] at hR
  have bef : ∀ {x y : List JV}, x.length ≠ y.length → JV.sameL x y = false := fun {x y} h => by
    rcases hs : JV.sameL x y with _ | _
    · rfl
    · exact absurd (by rw [sameL_len hs]) h
  have bff : ∀ {x y : List (ByteArray × JV)}, x.length ≠ y.length → JV.sameF x y = false := fun {x y} h => by
    rcases hs : JV.sameF x y with _ | _
    · rfl
    · exact absurd (by rw [sameF_len hs]) h
  by_cases hk : ¬ k = k'
  · have k1 := ne_t hk
    obtain rfl : r = false := by rw [← hR]; simp [hk]
    clear hR hk
    go_enter Tryd.func9, Tryd.ntmps9
    go_wp2_with fail
    go_ret
    exact ⟨rfl, (SamAt.begin w _ _).bl⟩
  obtain rfl : k = k' := Decidable.not_not.1 hk
  clear hk
  by_cases ht : ¬ t = t'
  · have k1 := str_ne ht
    have k2 := str_ne' ht
    obtain rfl : r = false := by rw [← hR]; simp [ht]
    clear hR ht
    go_enter Tryd.func9, Tryd.ntmps9
    go_wp2_with fail
    go_ret
    exact ⟨rfl, (SamAt.begin w _ _).bl⟩
  obtain rfl : t = t' := Decidable.not_not.1 ht
  clear ht
  by_cases hll : ¬ l.length = l'.length
  · have k1 := ne_t (show (l.length : Int) ≠ (l'.length : Int) by omega)
    obtain rfl : r = false := by rw [← hR, bef hll]; simp
    clear hR hll
    go_enter Tryd.func9, Tryd.ntmps9
    go_wp2_with fail
    go_ret
    exact ⟨rfl, (SamAt.begin w _ _).bl⟩
  by_cases hfl : ¬ f.length = f'.length
  · have k1 := ne_t (show (f.length : Int) ≠ (f'.length : Int) by omega)
    obtain rfl : r = false := by rw [← hR, bff hfl]; simp
    rw [← Decidable.not_not.1 hll]
    clear hR hfl hll
    go_enter Tryd.func9, Tryd.ntmps9
    go_wp2_with fail
    go_ret
    exact ⟨rfl, (SamAt.begin w _ _).bl⟩
  have hll := Decidable.not_not.1 hll
  have hfl := Decidable.not_not.1 hfl
  rw [← hll, ← hfl]
  have hR' : (JV.sameL (l.drop 0) (l'.drop 0) && JV.sameF f f') = r := by rw [← hR]; simp
  have HLL := Lib.hid hll
  have HFL := Lib.hid hfl
  have HR := Lib.hid hR'
  clear hR hR' hll hfl bef bff
  have S1 := SamAt.begin w #[.int .u8 k, .string t, .slice la l.length lc, .slice fa f.length fc] #[.int .u8 k, .string t, .slice la' l.length lc', .slice fa' f.length fc']
  go_enter Tryd.func9, Tryd.ntmps9
  go_wp2_with fail
  generalize (w.alloc (.cells #[.int .u8 k, .string t, .slice la l.length lc, .slice fa f.length fc] 25)).alloc (.cells #[.int .u8 k, .string t, .slice la' l.length lc', .slice fa' f.length fc'] 25) = w1 at *
  go_loopg [5] (l.length + 1) (fun m s5 wr => ∃ (q : Nat), q + m = l.length + 1 ∧ q ≤ l.length ∧ s5 = .int .i64 (q : Int) ∧ SamAt w #[.int .u8 k, .string t, .slice la l.length lc, .slice fa f.length fc] #[.int .u8 k, .string t, .slice la' l.length lc', .slice fa' f.length fc'] wr ∧ (JV.sameL (l.drop q) (l'.drop q) && JV.sameF f f') = r)
  case atStart => exact ⟨0, by omega, by omega, rfl, S1, HR.out⟩
  case round =>
    obtain ⟨q, hqm, hql, rfl, S, he⟩ := hrel
    clear S1
    have a2 := (blk_cell S.bx 2).trans rfl
    have b2 := (blk_cell S.bq 2).trans rfl
    rcases Nat.lt_or_ge q l.length with hlt | hge
    · have q0 : (0 : Int) ≤ (q : Int) := by omega
      have q1 : (q : Int) < (l.length : Int) := by omega
      obtain ⟨tv, htv⟩ : ∃ tv, l[q]? = some tv := ⟨_, List.getElem?_eq_getElem hlt⟩
      obtain ⟨tu, htu⟩ : ∃ tu, l'[q]? = some tu := ⟨_, List.getElem?_eq_getElem (by have := HLL.out; omega)⟩
      have hd1 := drop_at htv
      have hd2 := drop_at htu
      rw [hd1, hd2] at he
      simp only [JV.sameL] at he
      obtain ⟨vv, hvv, hcc⟩ := SeeL.at hr1 q tv htv
      obtain ⟨a0, a1, c0, c1, rfl⟩ := hvv.cells
      obtain ⟨uu, huu, hdd⟩ := SeeL.at hr1' q tu htu
      obtain ⟨d0, d1, e0, e1, rfl⟩ := huu.cells
      have hxl := SeeL.length hr1
      have hxl' := SeeL.length hr1'
      obtain ⟨g, off, rfl, hokg, hgw, _, hcel⟩ := ho1.addr (by omega)
      obtain ⟨g', off', rfl, hokg', hgw', _, hcel'⟩ := ho1'.addr (by have := HLL.out; omega)
      have src : ∀ i u, xs[q * 4 + i]? = some u → wr.cell? ⟨g, off + q * 4 + i, none⟩ = some u := fun i u h => by
        rw [S.bl.cell (p := ⟨g, off + q * 4 + i, none⟩) hgw, Nat.add_assoc]
        exact hcel _ u h
      have src' : ∀ i u, xs'[q * 4 + i]? = some u → wr.cell? ⟨g', off' + q * 4 + i, none⟩ = some u := fun i u h => by
        rw [S.bl.cell (p := ⟨g', off' + q * 4 + i, none⟩) hgw', Nat.add_assoc]
        exact hcel' _ u h
      have x0 := src 0 _ ((hcc 0 (by omega)).trans rfl)
      have x1 := src 1 _ ((hcc 1 (by omega)).trans rfl)
      have x2 := src 2 _ ((hcc 2 (by omega)).trans rfl)
      have x3 := src 3 _ ((hcc 3 (by omega)).trans rfl)
      have y0 := src' 0 _ ((hdd 0 (by omega)).trans rfl)
      have y1 := src' 1 _ ((hdd 1 (by omega)).trans rfl)
      have y2 := src' 2 _ ((hdd 2 (by omega)).trans rfl)
      have y3 := src' 3 _ ((hdd 3 (by omega)).trans rfl)
      rw [Nat.add_zero] at x0 y0
      have hm1 : tv ∈ l := List.mem_of_getElem? htv
      have hm2 : tu ∈ l' := List.mem_of_getElem? htu
      have C := fun wx (h1 : SeeV ok fr wx tv (.agg #[.int .u8 tv.kind, .string tv.text, .slice a0 tv.list.length a1, .slice c0 tv.fields.length c1])) (h2 : SeeV ok' fr' wx tu (.agg #[.int .u8 tu.kind, .string tu.text, .slice d0 tu.list.length d1, .slice e0 tu.fields.length e1])) => hl tv hm1 tu ok ok' fr fr' _ _ wx (bndL_mem hbl tv hm1) (bndL_mem hbl' tu hm2) h1 h2
      have V1 := hvv.below S.bl
      have V2 := huu.below S.bl
      clear src src' hcc hdd hvv huu hd1 hd2 htv htu hm1 hm2 hcel hcel' hxl hxl'
      rcases hb : JV.same tv tu with _ | _
      · rw [hb] at he
        simp only [hb] at C
        have C := Lib.hid C
        have HE := Lib.hid he
        clear he hb
        obtain rfl : r = false := by rw [← HE.out]; simp
        go_wp2_with fail
        have V1 := V1.belowB (w' := wr.drew) (Below.refl _ _).drew (Nat.le_refl _)
        have V2 := V2.belowB (w' := wr.drew) (Below.refl _ _).drew (Nat.le_refl _)
        have S := S.step (wy := wr.drew) (gb_drew (World.grownBy.refl _ _))
        go_still_tail 10, (by kernel_rfl)
        change wpList _ _ _ _ _ wr.drew
        generalize wr.drew = w2 at *
        go_wp2_with fail
        refine (C.out _ V1 V2).mono ?_
        rintro e w4 ⟨rfl, hb4⟩
        have S4 := S.step (gb_of_below hb4 none)
        go_wp2_with fail
        go_ret
        exact ⟨rfl, S4.bl⟩
      · rw [hb] at he
        simp only [hb] at C
        have C := Lib.hid C
        have HE := Lib.hid he
        clear he hb
        go_wp2_with fail
        have V1 := V1.belowB (w' := wr.drew) (Below.refl _ _).drew (Nat.le_refl _)
        have V2 := V2.belowB (w' := wr.drew) (Below.refl _ _).drew (Nat.le_refl _)
        have S := S.step (wy := wr.drew) (gb_drew (World.grownBy.refl _ _))
        go_still_tail 10, (by kernel_rfl)
        change wpList _ _ _ _ _ wr.drew
        generalize wr.drew = w2 at *
        go_wp2_with fail
        refine (C.out _ V1 V2).mono ?_
        rintro e w4 ⟨rfl, hb4⟩
        have S4 := S.step (gb_of_below hb4 none)
        go_wp2_with fail
        go_roundg (l.length + 1 - (q + 1))
        case measure => omega
        case rel => exact ⟨q + 1, by omega, by omega, by simp, S4, by rw [← HE.out]; simp⟩
    · have k3 : ¬((q : Int) < (l.length : Int)) := by omega
      obtain rfl : q = l.length := by omega
      rw [List.drop_length, List.drop_of_length_le (by have := HLL.out; omega)] at he
      simp only [JV.sameL, Bool.true_and] at he
      have he' : JV.sameF (f.drop 0) (f'.drop 0) = r := he
      have HE := Lib.hid he'
      clear he he' b2
      go_wp2_with fail
      go_loopg [6] (f.length + 1) (fun m s6 wr => ∃ (q : Nat), q + m = f.length + 1 ∧ q ≤ f.length ∧ s6 = .int .i64 (q : Int) ∧ SamAt w #[.int .u8 k, .string t, .slice la l.length lc, .slice fa f.length fc] #[.int .u8 k, .string t, .slice la' l.length lc', .slice fa' f.length fc'] wr ∧ JV.sameF (f.drop q) (f'.drop q) = r)
      case atStart => exact ⟨0, by omega, by omega, rfl, S, HE.out⟩
      case round =>
        clear S a2 k3 HE
        obtain ⟨q, hqm, hql, rfl, S, he⟩ := hrel
        have a2 := (blk_cell S.bx 3).trans rfl
        have b2 := (blk_cell S.bq 3).trans rfl
        rcases Nat.lt_or_ge q f.length with hlt | hge
        · have q0 : (0 : Int) ≤ (q : Int) := by omega
          have q1 : (q : Int) < (f.length : Int) := by omega
          obtain ⟨⟨nm, tv⟩, htv⟩ : ∃ tv, f[q]? = some tv := ⟨_, List.getElem?_eq_getElem hlt⟩
          obtain ⟨⟨nu, tu⟩, htu⟩ : ∃ tu, f'[q]? = some tu := ⟨_, List.getElem?_eq_getElem (by have := HFL.out; omega)⟩
          have hd1 := drop_at htv
          have hd2 := drop_at htu
          rw [hd1, hd2] at he
          simp only [JV.sameF] at he
          obtain ⟨vv, hvv, hcn, hcc⟩ := SeeF.at hr2 q nm tv htv
          obtain ⟨a0, a1, c0, c1, rfl⟩ := hvv.cells
          obtain ⟨uu, huu, hdn, hdd⟩ := SeeF.at hr2' q nu tu htu
          obtain ⟨d0, d1, e0, e1, rfl⟩ := huu.cells
          have hyl := SeeF.length hr2
          have hyl' := SeeF.length hr2'
          obtain ⟨g, off, rfl, hokg, hgw, _, hcel⟩ := ho2.addr (by omega)
          obtain ⟨g', off', rfl, hokg', hgw', _, hcel'⟩ := ho2'.addr (by have := HFL.out; omega)
          have src : ∀ j u, ys[j]? = some u → wr.cell? ⟨g, off + j, none⟩ = some u := fun j u h => by
            rw [S.bl.cell (p := ⟨g, off + j, none⟩) hgw]
            exact hcel _ u h
          have src' : ∀ j u, ys'[j]? = some u → wr.cell? ⟨g', off' + j, none⟩ = some u := fun j u h => by
            rw [S.bl.cell (p := ⟨g', off' + j, none⟩) hgw']
            exact hcel' _ u h
          have x0 := src (q * 5) _ hcn
          have x1 := src (q * 5 + 1) _ ((hcc 0 (by omega)).trans rfl)
          rw [← Nat.add_assoc] at x1
          have x2 := src (q * 5 + 2) _ ((hcc 1 (by omega)).trans rfl)
          rw [← Nat.add_assoc] at x2
          have x3 := src (q * 5 + 3) _ ((hcc 2 (by omega)).trans rfl)
          rw [← Nat.add_assoc] at x3
          have x4 := src (q * 5 + 4) _ ((hcc 3 (by omega)).trans rfl)
          rw [← Nat.add_assoc] at x4
          have y0 := src' (q * 5) _ hdn
          have y1 := src' (q * 5 + 1) _ ((hdd 0 (by omega)).trans rfl)
          rw [← Nat.add_assoc] at y1
          have y2 := src' (q * 5 + 2) _ ((hdd 1 (by omega)).trans rfl)
          rw [← Nat.add_assoc] at y2
          have y3 := src' (q * 5 + 3) _ ((hdd 2 (by omega)).trans rfl)
          rw [← Nat.add_assoc] at y3
          have y4 := src' (q * 5 + 4) _ ((hdd 3 (by omega)).trans rfl)
          rw [← Nat.add_assoc] at y4
          have hm1 : (nm, tv) ∈ f := List.mem_of_getElem? htv
          have hm2 : (nu, tu) ∈ f' := List.mem_of_getElem? htu
          have C := fun wx (h1 : SeeV ok fr wx tv (.agg #[.int .u8 tv.kind, .string tv.text, .slice a0 tv.list.length a1, .slice c0 tv.fields.length c1])) (h2 : SeeV ok' fr' wx tu (.agg #[.int .u8 tu.kind, .string tu.text, .slice d0 tu.list.length d1, .slice e0 tu.fields.length e1])) => hf nm tv hm1 tu ok ok' fr fr' _ _ wx (bndF_mem hbf nm tv hm1) (bndF_mem hbf' nu tu hm2) h1 h2
          have V1 := hvv.below S.bl
          have V2 := huu.below S.bl
          clear src src' hcc hdd hcn hdn hvv huu hd1 hd2 htv htu hm1 hm2 hcel hcel' hyl hyl'
          by_cases hnm : ¬ nm = nu
          · have n1 := str_ne hnm
            have n2 := str_ne' hnm
            obtain rfl : r = false := by rw [← he]; simp [hnm]
            clear hnm he C V1 V2
            go_wp2_with fail
            go_quiet (fail)
            go_wp2_with fail
            go_ret
            exact ⟨rfl, (S.step (gb_drewN (World.grownBy.refl _ _) _)).bl⟩
          · obtain rfl : nm = nu := Decidable.not_not.1 hnm
            clear hnm
            rcases hb : JV.same tv tu with _ | _
            · rw [hb] at he
              simp only [hb] at C
              have C := Lib.hid C
              obtain rfl : r = false := by rw [← he]; simp
              clear he hb
              go_wp2_with fail
              have V1 := V1.belowB (w' := wr.drew) (Below.refl _ _).drew (Nat.le_refl _)
              have V2 := V2.belowB (w' := wr.drew) (Below.refl _ _).drew (Nat.le_refl _)
              have S := S.step (wy := wr.drew) (gb_drew (World.grownBy.refl _ _))
              go_still_tail 26, (by kernel_rfl)
              change wpList _ _ _ _ _ wr.drew
              generalize wr.drew = w2 at *
              go_wp2_with fail
              refine (C.out _ V1 V2).mono ?_
              rintro e w4 ⟨rfl, hb4⟩
              have S4 := S.step (gb_of_below hb4 none)
              go_wp2_with fail
              go_ret
              exact ⟨rfl, S4.bl⟩
            · rw [hb] at he
              simp only [hb] at C
              have C := Lib.hid C
              have HE := Lib.hid he
              clear he hb
              go_wp2_with fail
              have V1 := V1.belowB (w' := wr.drew) (Below.refl _ _).drew (Nat.le_refl _)
              have V2 := V2.belowB (w' := wr.drew) (Below.refl _ _).drew (Nat.le_refl _)
              have S := S.step (wy := wr.drew) (gb_drew (World.grownBy.refl _ _))
              go_still_tail 26, (by kernel_rfl)
              change wpList _ _ _ _ _ wr.drew
              generalize wr.drew = w2 at *
              go_wp2_with fail
              refine (C.out _ V1 V2).mono ?_
              rintro e w4 ⟨rfl, hb4⟩
              have S4 := S.step (gb_of_below hb4 none)
              go_wp2_with fail
              go_roundg (f.length + 1 - (q + 1))
              case measure => omega
              case rel => exact ⟨q + 1, by omega, by omega, by simp, S4, by rw [← HE.out]; simp⟩
        · have k3 : ¬((q : Int) < (f.length : Int)) := by omega
          obtain rfl : q = f.length := by omega
          rw [List.drop_length, List.drop_of_length_le (by have := HFL.out; omega)] at he
          obtain rfl : r = true := by rw [← he]; rfl
          clear he
          go_wp2_with fail
          go_ret
          exact ⟨rfl, S.bl⟩
theorem same_calls : ∀ a, SameOk a := JV.induct same_step
end Go.Proofs.YtgnobnbbjekgnaaDoor
