import Derived.Test.YtgnobnbbjekgnaaDoorTwn
/- json.Get, the walk. -/
namespace Go.Proofs.YtgnobnbbjekgnaaDoor
open Go.RowKit
set_option linter.unusedVariables false
attribute [local go_sem ↓] Go.wp_at_zero Go.wp_at_succ

theorem getF_at {n : ByteArray} : ∀ {f : List (ByteArray × JV)} {q : Nat}, (∀ j, j < q → ∀ m v, f[j]? = some (m, v) → m ≠ n) → JV.getF n f = JV.getF n (f.drop q)
  | [], q, h => by simp
  | (m, v) :: r, 0, h => rfl
  | (m, v) :: r, q + 1, h => by
    rw [List.drop_succ_cons]
    show (if m = n then some v else JV.getF n r) = _
    rw [if_neg (h 0 (by omega) m v rfl)]
    exact getF_at (f := r) (q := q) (fun j hj m' v' e => h (j + 1) (by omega) m' v' (by simpa using e))

def gKind (r : Option JV) : JV := r.getD JV.null
theorem results_get {fn : Func} {t u : Tmp} (h : fn.results = #[.cell t 25, .tmp u]) (tmps : Array Value) (w : World) (p : Nat) {c0 c1 c2 c3 x : Value} {ty : TypeId} {m : Nat × Nat}
    (ht : tmps.getD t undef = .pointer (some ⟨p, 0, none⟩)) (hu : tmps.getD u undef = x) (hp : w.heap[p]? = some (.cells #[c0, c1, c2, c3] ty m)) :
    (results fn tmps).run Tryd.prog w = .ok (.tuple #[.agg #[c0, c1, c2, c3], x]) w := by
  have k0 : w.cell? ⟨p, 0, none⟩ = some c0 := by rw [blk_cell hp]; rfl
  have k1 : w.cell? ⟨p, 1, none⟩ = some c1 := by rw [blk_cell hp]; rfl
  have k2 : w.cell? ⟨p, 2, none⟩ = some c2 := by rw [blk_cell hp]; rfl
  have k3 : w.cell? ⟨p, 3, none⟩ = some c3 := by rw [blk_cell hp]; rfl
  rw [Array.getD_eq_getD_getElem?] at ht hu
  simp [results, h, go_sem, ht, hu, k0, k1, k2, k3]

set_option maxRecDepth 100000 in
set_option maxHeartbeats 4000000 in
theorem get_calls (t : JV) (n : ByteArray) (ok : Nat → Prop) (fr : Prop) (v : Value) (w : World) (hb : bndV 262144 t) (hv : SeeV ok fr w t v) :
    Calls Tryd.prog 11 #[v, .string n] w fun e w' => (∃ v', e = .returned (.tuple #[v', .bool (JV.get t n).isSome]) ∧ SeeV (fun k => w.heap.size ≤ k) True w' (gKind (JV.get t n)) v') ∧ Below w.heap.size w w' := by
  cases t with
  | mk k tx l f =>
  simp only [bndV] at hb
  obtain ⟨hn1, hn2, hbl, hbf⟩ := hb
  simp only [SeeV] at hv
  obtain ⟨la, lc, fa, fc, xs, ys, rfl, ho1, hr1, ho2, hr2⟩ := hv
  obtain ⟨r, hR⟩ : ∃ r, JV.get (.mk k tx l f) n = r := ⟨_, rfl⟩
  rw [hR]
  unfold JV.get JV.kind JV.fields at hR
  have T1 : TwnAt w #[.int .u8 k, .string tx, .slice la l.length lc, .slice fa f.length fc] ((w.alloc (.cells #[.int .u8 k, .string tx, .slice la l.length lc, .slice fa f.length fc] 25)).alloc (.cells #[.int .u8 0, .string ⟨#[]⟩, .slice none 0 0, .slice none 0 0] 25)) := by
    refine ⟨gb_below (gb_alloc (gb_alloc (World.grownBy.refl _ _) _) _), blk_alloc (blk_new _ _) _, ?_⟩
    have := blk_new (w.alloc (.cells #[.int .u8 k, .string tx, .slice la l.length lc, .slice fa f.length fc] 25)) (.cells #[.int .u8 0, .string ⟨#[]⟩, .slice none 0 0, .slice none 0 0] 25)
    rw [World.size_alloc] at this
    exact this
  by_cases h6 : k = 6
  · subst h6
    rw [if_pos rfl] at hR
    have R := Lib.hid hR
    clear hR
    go_enter Tryd.func11, Tryd.ntmps11
    go_wp2_with fail
    generalize (w.alloc (.cells #[.int .u8 6, .string tx, .slice la l.length lc, .slice fa f.length fc] 25)).alloc (.cells #[.int .u8 0, .string ⟨#[]⟩, .slice none 0 0, .slice none 0 0] 25) = w1 at *
    have hyl := SeeF.length hr2
    go_loopg [14] (f.length + 1) (fun m s14 wr => ∃ (q : Nat), q + m = f.length + 1 ∧ q ≤ f.length ∧ s14 = .int .i64 (q : Int) ∧ TwnAt w #[.int .u8 6, .string tx, .slice la l.length lc, .slice fa f.length fc] wr ∧ JV.getF n (f.drop q) = r)
    case atStart => exact ⟨0, by omega, by omega, by first | rfl | skip, T1, R.out⟩
    case round =>
      obtain ⟨q, hqm, hql, rfl, T3, he⟩ := hrel
      clear T1
      rcases Nat.lt_or_ge q f.length with hlt | hge
      · have q0 : (0 : Int) ≤ (q : Int) := by omega
        have q1 : (q : Int) < (f.length : Int) := by omega
        obtain ⟨⟨nm, tv⟩, htv⟩ : ∃ tv, f[q]? = some tv := ⟨_, List.getElem?_eq_getElem hlt⟩
        obtain ⟨vv, hvv, hcn, hcc⟩ := SeeF.at hr2 q nm tv htv
        obtain ⟨a0, a1, b0, b1, rfl⟩ := hvv.cells
        have hmem : (nm, tv) ∈ f := List.mem_of_getElem? htv
        obtain ⟨g, off, rfl, hokg, hgw, _, hcel⟩ := ho2.addr (by omega)
        have src : ∀ j u, ys[j]? = some u → wr.cell? ⟨g, off + j, none⟩ = some u := fun j u h => by
          rw [T3.bl.cell (p := ⟨g, off + j, none⟩) hgw]
          exact hcel _ u h
        have x0 := src (q * 5) _ hcn
        have x1 := src (q * 5 + 1) _ ((hcc 0 (by omega)).trans rfl)
        rw [← Nat.add_assoc] at x1
        have x2 := src (q * 5 + 2) _ ((hcc 1 (by omega)).trans rfl)
        rw [← Nat.add_assoc] at x2
        have x3 := src (q * 5 + 3) _ ((hcc 2 (by omega)).trans rfl)
        rw [← Nat.add_assoc] at x3
        have x4 := src (q * 5 + 4) _ ((hcc 3 (by omega)).trans rfl)
        rw [← Nat.add_assoc] at x4
        have hvr : SeeV ok fr wr tv (.agg #[.int .u8 tv.kind, .string tv.text, .slice a0 tv.list.length a1, .slice b0 tv.fields.length b1]) := hvv.below T3.bl
        clear src hcc hcn hvv
        have hdrop : f.drop q = (nm, tv) :: f.drop (q + 1) := by
          rw [List.drop_eq_getElem_cons hlt]
          congr 1
          rw [List.getElem?_eq_getElem hlt] at htv
          exact Option.some.inj htv
        rw [hdrop] at he
        have he' : (if nm = n then some tv else JV.getF n (f.drop (q + 1))) = r := he
        clear he hdrop
        by_cases hnm : nm = n
        · rw [if_pos hnm] at he'
          subst he'
          subst hnm
          have hvA : SeeV ok fr (wr.alloc (.cells #[.string nm, .int .u8 tv.kind, .string tv.text, .slice a0 tv.list.length a1, .slice b0 tv.fields.length b1] 38)) tv _ := hvr.alloc _
          go_wp2_with fail
          refine (twin_calls tv ok fr _ _ (bndF_mem hbf nm tv hmem) hvA).mono ?_
          rintro e w4 ⟨⟨v2, rfl, rep4⟩, hb4⟩
          obtain ⟨c0, c1, d0, d1, rfl⟩ := rep4.cells
          have hsz := T3.bl.size
          have hrs := lt_of_block T3.rs
          have T4 := T3.step ((World.grownBy_alloc wr (.cells #[.string nm, .int .u8 tv.kind, .string tv.text, .slice a0 tv.list.length a1, .slice b0 tv.fields.length b1] 38) none).trans (gb_of_below hb4 none)) (fun j e => by cases e)
          rw [World.size_alloc] at rep4
          clear hvA hvr T3 hb4 x0 x1 x2 x3 x4
          have e0 := (blk_cell T4.rs 0).trans rfl
          have e1 := (blk_cell T4.rs 1).trans rfl
          have e2 := (blk_cell T4.rs 2).trans rfl
          have e3 := (blk_cell T4.rs 3).trans rfl
          have g0 := blk_free T4.rs 0
          have g1 := blk_free T4.rs 1
          have g2 := blk_free T4.rs 2
          have g3 := blk_free T4.rs 3
          go_wp2_with fail
          have hF := blk_set (blk_set (blk_set (blk_set T4.rs 0 (.int .u8 tv.kind)) 1 (.string tv.text)) 2 (.slice c0 tv.list.length c1)) 3 (.slice d0 tv.fields.length d1)
          have hle : w.heap.size ≤ w.heap.size + 1 := by omega
          refine bodyPost_ret (results_get rfl _ _ _ rfl rfl hF) rfl ⟨⟨_, rfl, SeeV.move id ?_ ?_ ?_ _ _ rep4⟩, ?_⟩
          · intro p hp _; omega
          · simp [World.setCell]
          · intro p hp _
            have h : p ≠ w.heap.size + 1 := by omega
            exact (heap_set_ne h).trans ((heap_set_ne h).trans ((heap_set_ne h).trans (heap_set_ne h)))
          · exact (((T4.bl.setCell (p := ⟨w.heap.size + 1, 0, none⟩) hle _).setCell (p := ⟨w.heap.size + 1, 1, none⟩) hle _).setCell (p := ⟨w.heap.size + 1, 2, none⟩) hle _).setCell (p := ⟨w.heap.size + 1, 3, none⟩) hle _
        · rw [if_neg hnm] at he'
          have kn : (nm.toList == n.toList) = false := by
            rw [beq_eq_false_iff_ne]
            intro h
            rw [ByteArray.toList_eq, ByteArray.toList_eq] at h
            exact hnm (by
              cases nm; cases n
              simp only at h
              rw [Array.toList_inj] at h
              rw [h])
          clear hvr
          go_wp2_with fail
          go_roundg (f.length + 1 - (q + 1))
          case measure => omega
          case rel => exact ⟨q + 1, by omega, by omega, by simp, T3.step (World.grownBy_alloc wr _ none) (fun j e => by cases e), he'⟩
      · have k3 : ¬((q : Int) < (f.length : Int)) := by omega
        obtain rfl : q = f.length := by omega
        rw [List.drop_length] at he
        subst he
        have d0 := (blk_cell T3.rs 0).trans rfl
        have d1 := (blk_cell T3.rs 1).trans rfl
        have d2 := (blk_cell T3.rs 2).trans rfl
        have d3 := (blk_cell T3.rs 3).trans rfl
        have g0 := blk_free T3.rs 0
        have g1 := blk_free T3.rs 1
        have g2 := blk_free T3.rs 2
        have g3 := blk_free T3.rs 3
        go_wp2_with fail
        have hF := blk_set (blk_set (blk_set (blk_set T3.rs 0 (.int .u8 0)) 1 (.string ⟨#[]⟩)) 2 (.slice none 0 0)) 3 (.slice none 0 0)
        have hle : w.heap.size ≤ w.heap.size + 1 := by omega
        refine bodyPost_ret (results_get rfl _ _ _ rfl rfl hF) rfl ⟨⟨_, rfl, SeeV.leaf _ _ _ _ _ _ _ _ _⟩, ?_⟩
        exact (((T3.bl.setCell (p := ⟨w.heap.size + 1, 0, none⟩) hle _).setCell (p := ⟨w.heap.size + 1, 1, none⟩) hle _).setCell (p := ⟨w.heap.size + 1, 2, none⟩) hle _).setCell (p := ⟨w.heap.size + 1, 3, none⟩) hle _
  · rw [if_neg h6] at hR
    subst hR
    have k6 := eq_f h6
    go_enter Tryd.func11, Tryd.ntmps11
    go_wp2_with fail
    exact bodyPost_ret (results_get rfl _ _ _ rfl rfl T1.rs) rfl ⟨⟨_, rfl, SeeV.leaf _ _ _ _ _ _ _ _ _⟩, T1.bl⟩
end Go.Proofs.YtgnobnbbjekgnaaDoor
