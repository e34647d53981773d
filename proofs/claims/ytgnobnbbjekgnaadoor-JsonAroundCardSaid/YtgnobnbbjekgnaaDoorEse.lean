import Derived.Test.YtgnobnbbjekgnaaDoorEsd
/- The JSON reader: what stands behind a backslash; a character. -/
namespace Go.Proofs.YtgnobnbbjekgnaaDoor
open Go.RowKit
set_option linter.unusedVariables false

theorem esc_some {c u : Nat} (hc : c < 256) (h : Js.esc1 c = some u) : 0 ≤ escI c ∧ escI c < 8 ∧ ([34, 92, 47, 8, 12, 10, 13, 9] : List UInt8).getD (escI c).toNat 0 = u.toUInt8 ∧ u < 128 := by
  have H : escOk c = true := escOk_all ⟨c, hc⟩
  unfold escOk at H; rw [h] at H; exact of_decide_eq_true H
theorem esc_none {c : Nat} (hc : c < 256) (h : Js.esc1 c = none) : escI c < 0 := by
  have H : escOk c = true := escOk_all ⟨c, hc⟩
  unfold escOk at H; rw [h] at H; exact of_decide_eq_true H
theorem esc1_pos {c u : Nat} (h : Js.esc1 c = some u) : 0 < c := by
  rcases Nat.eq_zero_or_pos c with h0 | h0
  · subst h0; cases h
  · exact h0

set_option maxRecDepth 100000 in
set_option maxHeartbeats 2000000 in
theorem escape_calls (b : Nat) (s : ByteArray) (i : Nat) (w : World) (hs : s.size ≤ 9223372036854775000) (hi : i ≤ s.size) (hr : RdAt w b s i) (hE : Env w) (hb : NotG b) :
    Calls Tryd.prog 35 #[.pointer (some ⟨b, 0, none⟩)] w (RPost b s w (runeVal (Js.escape s.data.toList i))) := by
  have hh : ∀ w j, RdAt w b s j → j ≤ s.size → Calls Tryd.prog 20 #[.pointer (some ⟨b, 0, none⟩)] w fun e w' => e = .returned (.int .u8 ((Js.hd s.data.toList j : Nat) : Int)) ∧ ∃ n, w' = w.drewN n := fun w j h hj => hand_calls b s j w (by omega) hj h
  have H := Lib.hid hh
  clear hh
  have c0 := hr.c0
  have c1 := hr.c1
  have f1 := hr.f1
  have h0 : (0 : Int) ≤ i := by omega
  have hlt := hd_lt s.data.toList i
  obtain ⟨r, hR⟩ : ∃ r, Js.escape s.data.toList i = r := ⟨_, rfl⟩
  rw [hR]
  unfold Js.escape at hR
  rcases he : Js.esc1 (Js.hd s.data.toList i) with _ | u
  · rw [he] at hR
    have hneg := esc_none hlt he
    simp only at hR
    clear he
    rcases hu : Js.unit s.data.toList i with ⟨p, q⟩ | ⟨u, j⟩
    · rw [hu] at hR
      have R := Lib.hid (show .error (p, q) = r from hR)
      have HU := Lib.hid hu
      clear hR hu
      by_cases hin : i < s.size
      · have k1 : decide ((i : Int) < (s.size : Int)) = true := lt_t (by omega)
        go_enter Tryd.func35, Tryd.ntmps35
        go_wp2_with (first | (go_at_call 20; refine (H.out _ i hr hi).mono ?_; rintro e w' ⟨rfl, n, rfl⟩) | (go_at_call 19; refine (esc_ix_calls _ hlt _).mono ?_; rintro e w' ⟨rfl, rfl⟩))
        go_quiet (fail)
        go_wp2_with (go_at_call 47; refine (unit_calls b s i _ hs hi (by first | exact hr.drewN _ | exact (hr.drewN _).drewN _)).mono ?_; rintro e w' hp; rw [HU.out] at hp; obtain ⟨rfl, hg2⟩ := RPost.error hp; clear hp)
        exact end_panic rfl (RPost.mkErr (by rw [← R.out]; rfl) rfl ((gb_drewN (World.grownBy.refl _ _) _).trans hg2))
      · have k1 : decide ((i : Int) < (s.size : Int)) = false := lt_f (by omega)
        go_enter Tryd.func35, Tryd.ntmps35
        go_wp2_with (first | (go_at_call 20; refine (H.out _ i hr hi).mono ?_; rintro e w' ⟨rfl, n, rfl⟩) | (go_at_call 19; refine (esc_ix_calls _ hlt _).mono ?_; rintro e w' ⟨rfl, rfl⟩))
        go_quiet (fail)
        go_wp2_with (go_at_call 47; refine (unit_calls b s i _ hs hi (by first | exact hr.drewN _ | exact (hr.drewN _).drewN _)).mono ?_; rintro e w' hp; rw [HU.out] at hp; obtain ⟨rfl, hg2⟩ := RPost.error hp; clear hp)
        exact end_panic rfl (RPost.mkErr (by rw [← R.out]; rfl) rfl ((gb_drewN (World.grownBy.refl _ _) _).trans hg2))
    · rw [hu] at hR
      obtain ⟨hu16, hj, hj5⟩ := unit_ok hu (by rw [len_data]; exact hi)
      rw [len_data] at hj
      have hin : i < s.size := by omega
      have k1 : decide ((i : Int) < (s.size : Int)) = true := lt_t (by omega)
      obtain ⟨x, hx⟩ : ∃ x : Int, (u : Int) = x := ⟨_, rfl⟩
      have UN := Lib.hid (show ∀ wx, RdAt wx b s i → Calls Tryd.prog 47 #[.pointer (some ⟨b, 0, none⟩)] wx fun e w' => e = .returned (.int .i32 x) ∧ RdAt w' b s j ∧ wx.grownBy w' (some b) from fun wx h => (unit_calls b s i wx hs hi h).mono (by
        intro e w' hp; rw [hu] at hp; rw [← hx]; exact RPost.ok hp))
      simp only at hR
      clear hu hj5
      by_cases hsu : 55296 ≤ u ∧ u < 57344
      · rw [if_pos hsu] at hR
        have s1 : 55296 ≤ x := by omega
        have s2 : x < 57344 := by omega
        clear hsu
        rcases hp : Js.pair s.data.toList j u with _ | _
        · rw [hp] at hR
          have PA := Lib.hid (show ∀ wx, RdAt wx b s j → Env wx → Calls Tryd.prog 48 #[.pointer (some ⟨b, 0, none⟩), .int .i32 x] wx fun e w' => e = .returned (.bool false) ∧ Below wx.heap.size wx w' from fun wx h hE => by rw [← hx, ← hp]; exact pair_calls b s j u hu16 wx hs hj h hE)
          have R := Lib.hid (show .ok (65533, j) = r from hR)
          have HX := Lib.hid hx
          clear hR hp hx
          go_enter Tryd.func35, Tryd.ntmps35
          go_wp2_with (first | (go_at_call 20; refine (H.out _ i hr hi).mono ?_; rintro e w' ⟨rfl, n, rfl⟩) | (go_at_call 19; refine (esc_ix_calls _ hlt _).mono ?_; rintro e w' ⟨rfl, rfl⟩))
          go_quiet (fail)
          go_wp2_with fail
          refine (UN.out _ (by first | exact hr.drewN _ | exact (hr.drewN _).drewN _)).mono ?_; rintro e w1 ⟨rfl, hr2, hg2⟩
          have hg3 := (gb_drewN (World.grownBy.refl w (some b)) _).trans hg2
          go_wp2_with fail
          refine (PA.out _ hr2 (hE.grown hg3 (fun k e => by cases e; exact hb))).mono ?_; rintro e w2 ⟨rfl, hb2⟩
          go_wp2
          go_ret
          exact RPost.mkOk (v := .int .i32 65533) (by rw [← R.out]; rfl) rfl (hr2.grown (gb_of_below hb2 none) (by simp)) (hg3.trans (gb_of_below hb2 _))
        · rw [hp] at hR
          have hj6 : j + 6 ≤ s.size := by
            unfold Js.pair at hp
            rw [len_data] at hp
            rcases Nat.lt_or_ge s.size (j + 6) with h | h
            · rw [if_pos h] at hp; cases hp
            · exact h
          have PA := Lib.hid (show ∀ wx, RdAt wx b s j → Env wx → Calls Tryd.prog 48 #[.pointer (some ⟨b, 0, none⟩), .int .i32 x] wx fun e w' => e = .returned (.bool true) ∧ Below wx.heap.size wx w' from fun wx h hE => by rw [← hx, ← hp]; exact pair_calls b s j u hu16 wx hs hj h hE)
          simp only [if_true] at hR
          clear hp
          rcases h2 : Js.unit s.data.toList (j + 1) with ⟨p, q⟩ | ⟨v, k⟩
          · rw [h2] at hR
            have R := Lib.hid (show .error (p, q) = r from hR)
            have U2 := Lib.hid (show ∀ wx, RdAt wx b s j → Calls Tryd.prog 49 #[.pointer (some ⟨b, 0, none⟩)] wx fun e w' => e = .panicked (thrown p q) ∧ wx.grownBy w' (some b) from fun wx h => (unit2_calls b s j wx hs (by omega) h).mono (by intro e w' hp; rw [h2] at hp; exact RPost.error hp))
            clear hR h2 hx
            go_enter Tryd.func35, Tryd.ntmps35
            go_wp2_with (first | (go_at_call 20; refine (H.out _ i hr hi).mono ?_; rintro e w' ⟨rfl, n, rfl⟩) | (go_at_call 19; refine (esc_ix_calls _ hlt _).mono ?_; rintro e w' ⟨rfl, rfl⟩))
            go_quiet (fail)
            go_wp2_with fail
            refine (UN.out _ (by first | exact hr.drewN _ | exact (hr.drewN _).drewN _)).mono ?_; rintro e w1 ⟨rfl, hr2, hg2⟩
            have hg3 := (gb_drewN (World.grownBy.refl w (some b)) _).trans hg2
            go_wp2_with fail
            refine (PA.out _ hr2 (hE.grown hg3 (fun k e => by cases e; exact hb))).mono ?_; rintro e w2 ⟨rfl, hb2⟩
            go_wp2_with fail
            refine (U2.out _ (hr2.grown (gb_of_below hb2 none) (by simp))).mono ?_; rintro e w3 ⟨rfl, hg4⟩
            go_wp2
            exact end_panic rfl (RPost.mkErr (by rw [← R.out]; rfl) rfl ((hg3.trans (gb_of_below hb2 _)).trans hg4))
          · rw [h2] at hR
            obtain ⟨hv16, -, -⟩ := unit_ok h2 (by rw [len_data]; omega)
            obtain ⟨y, hy⟩ : ∃ y : Int, (v : Int) = y := ⟨_, rfl⟩
            obtain ⟨z, hz⟩ : ∃ z : Int, ((Js.joined u v : Nat) : Int) = z := ⟨_, rfl⟩
            have U2 := Lib.hid (show ∀ wx, RdAt wx b s j → Calls Tryd.prog 49 #[.pointer (some ⟨b, 0, none⟩)] wx fun e w' => e = .returned (.int .i32 y) ∧ RdAt w' b s k ∧ wx.grownBy w' (some b) from fun wx h => (unit2_calls b s j wx hs (by omega) h).mono (by intro e w' hp; rw [h2] at hp; rw [← hy]; exact RPost.ok hp))
            have JO := Lib.hid (show ∀ wx, Calls Tryd.prog 50 #[.int .i32 x, .int .i32 y] wx fun e w' => e = .returned (.int .i32 z) ∧ wx = w' from fun wx => by rw [← hx, ← hy, ← hz]; exact joined_calls u v hu16 hv16 wx)
            have R := Lib.hid (show .ok (Js.joined u v, k) = r from hR)
            have HZ := Lib.hid hz
            clear hR h2 hx hy hz
            go_enter Tryd.func35, Tryd.ntmps35
            go_wp2_with (first | (go_at_call 20; refine (H.out _ i hr hi).mono ?_; rintro e w' ⟨rfl, n, rfl⟩) | (go_at_call 19; refine (esc_ix_calls _ hlt _).mono ?_; rintro e w' ⟨rfl, rfl⟩))
            go_quiet (fail)
            go_wp2_with fail
            refine (UN.out _ (by first | exact hr.drewN _ | exact (hr.drewN _).drewN _)).mono ?_; rintro e w1 ⟨rfl, hr2, hg2⟩
            have hg3 := (gb_drewN (World.grownBy.refl w (some b)) _).trans hg2
            go_wp2_with fail
            refine (PA.out _ hr2 (hE.grown hg3 (fun k e => by cases e; exact hb))).mono ?_; rintro e w2 ⟨rfl, hb2⟩
            go_wp2_with fail
            refine (U2.out _ (hr2.grown (gb_of_below hb2 none) (by simp))).mono ?_; rintro e w3 ⟨rfl, hr4, hg4⟩
            go_wp2_with (go_at_call 50; refine (JO.out _).mono ?_; rintro e w4 ⟨rfl, rfl⟩)
            go_ret
            exact RPost.mkOk (v := .int .i32 z) (by rw [← R.out, ← HZ.out]; rfl) rfl hr4 ((hg3.trans (gb_of_below hb2 _)).trans hg4)
      · rw [if_neg hsu] at hR
        have R := Lib.hid (show .ok (u, j) = r from hR)
        have HX := Lib.hid hx
        clear hR
        by_cases s1 : u < 55296
        · have s1' : x < 55296 := by omega
          clear hsu s1 hx
          go_enter Tryd.func35, Tryd.ntmps35
          go_wp2_with (first | (go_at_call 20; refine (H.out _ i hr hi).mono ?_; rintro e w' ⟨rfl, n, rfl⟩) | (go_at_call 19; refine (esc_ix_calls _ hlt _).mono ?_; rintro e w' ⟨rfl, rfl⟩))
          go_quiet (fail)
          go_wp2_with fail
          refine (UN.out _ (by first | exact hr.drewN _ | exact (hr.drewN _).drewN _)).mono ?_; rintro e w1 ⟨rfl, hr2, hg2⟩
          have hg3 := (gb_drewN (World.grownBy.refl w (some b)) _).trans hg2
          go_wp2
          go_ret
          exact RPost.mkOk (v := .int .i32 x) (by rw [← R.out, ← HX.out]; rfl) rfl hr2 hg3
        · have s1' : 55296 ≤ x := by omega
          have s2' : 57344 ≤ x := by omega
          clear hsu s1 hx
          go_enter Tryd.func35, Tryd.ntmps35
          go_wp2_with (first | (go_at_call 20; refine (H.out _ i hr hi).mono ?_; rintro e w' ⟨rfl, n, rfl⟩) | (go_at_call 19; refine (esc_ix_calls _ hlt _).mono ?_; rintro e w' ⟨rfl, rfl⟩))
          go_quiet (fail)
          go_wp2_with fail
          refine (UN.out _ (by first | exact hr.drewN _ | exact (hr.drewN _).drewN _)).mono ?_; rintro e w1 ⟨rfl, hr2, hg2⟩
          have hg3 := (gb_drewN (World.grownBy.refl w (some b)) _).trans hg2
          go_wp2
          go_ret
          exact RPost.mkOk (v := .int .i32 x) (by rw [← R.out, ← HX.out]; rfl) rfl hr2 hg3
  · rw [he] at hR
    have R := Lib.hid hR
    obtain ⟨e0, e1, e2, e3⟩ := esc_some hlt he
    have hin := hd_pos (esc1_pos he)
    have k1 : decide ((i : Int) < (s.size : Int)) = true := lt_t (by omega)
    have E2 := Lib.hid e2
    clear hR he e2
    obtain ⟨k, hk⟩ : ∃ k : Nat, escI (Js.hd s.data.toList i) = (k : Int) := ⟨_, (Int.toNat_of_nonneg e0).symm⟩
    have k8 : k < 8 := by omega
    have K := Lib.hid hk
    have XI := Lib.hid (fun wx => show Calls Tryd.prog 19 #[.string ⟨#[34, 92, 47, 98, 102, 110, 114, 116]⟩, .int .u8 ((Js.hd s.data.toList i : Nat) : Int)] wx fun e w' => e = .returned (.int .i64 (k : Int)) ∧ wx = w' by rw [← hk]; exact esc_ix_calls _ hlt wx)
    have kk0 : (0 : Int) ≤ k := by omega
    have kk1 : (k : Int) < 8 := by omega
    clear hk e0 e1
    go_enter Tryd.func35, Tryd.ntmps35
    go_wp2_with (first | (go_at_call 20; refine (H.out _ i hr hi).mono ?_; rintro e w' ⟨rfl, n, rfl⟩) | (go_at_call 19; refine (XI.out _).mono ?_; rintro e w' ⟨rfl, rfl⟩))
    go_quiet (fail)
    go_wp2
    go_ret
    refine RPost.mkOk (v := .int .i32 (u : Int)) (by rw [← R.out]; rfl) ?_ ((hr.drewN _).set (i + 1) (by omega)) (gb_setCell (gb_drewN (World.grownBy.refl _ _) _) (.inr rfl) _)
    have e := E2.out
    rw [K.out] at e
    have k' : k < ([34, 92, 47, 8, 12, 10, 13, 9] : List UInt8).length := k8
    rw [Int.toNat_natCast, List.getD_eq_getElem?_getD, List.getElem?_eq_getElem k'] at e
    refine ret_int' ?_
    have e' : ({ data := #[34, 92, 47, 8, 12, 10, 13, 9] } : ByteArray)[k].toNat = u := by
      show ([34, 92, 47, 8, 12, 10, 13, 9] : List UInt8)[k].toNat = u
      have : ([34, 92, 47, 8, 12, 10, 13, 9] : List UInt8)[k] = u.toUInt8 := e
      rw [this]; simp; omega
    show wrap32 (({ data := #[34, 92, 47, 8, 12, 10, 13, 9] } : ByteArray)[k].toNat : Int) = (u : Int)
    rw [e']
    unfold wrap32
    omega
end Go.Proofs.YtgnobnbbjekgnaaDoor
