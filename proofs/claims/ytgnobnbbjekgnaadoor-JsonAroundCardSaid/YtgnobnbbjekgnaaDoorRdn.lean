import Derived.Test.YtgnobnbbjekgnaaDoorRdb
/- The JSON reader: numbers. -/
namespace Go.Proofs.YtgnobnbbjekgnaaDoor
open Go.RowKit
set_option linter.unusedVariables false

theorem numMinus_le {s : ByteArray} {i : Nat} (hi : i ≤ s.size) : Js.numMinus s.data.toList i ≤ s.size := by
  unfold Js.numMinus
  split
  · rename_i h; have := hd_pos (s := s) (i := i) (by omega); omega
  · exact hi
theorem numWhole_ok {s : ByteArray} {i j : Nat} (h : Js.numWhole s.data.toList i = .ok j) (hi : i ≤ s.size) : i < j ∧ j ≤ s.size := by
  unfold Js.numWhole at h
  split at h
  · rename_i h'; cases h; have := hd_pos (s := s) (i := i) (by omega); omega
  · have := digits_ok h (by rw [len_data]; exact hi); rw [len_data] at this; exact this
theorem numFrac_ok {s : ByteArray} {i j : Nat} (h : Js.numFrac s.data.toList i = .ok j) (hi : i ≤ s.size) : i ≤ j ∧ j ≤ s.size := by
  unfold Js.numFrac at h
  split at h
  · rename_i h'; have := hd_pos (s := s) (i := i) (by omega)
    have := digits_ok h (by rw [len_data]; omega); rw [len_data] at this; omega
  · cases h; omega
theorem numExp_ok {s : ByteArray} {i j : Nat} (h : Js.numExp s.data.toList i = .ok j) (hi : i ≤ s.size) : i ≤ j ∧ j ≤ s.size := by
  unfold Js.numExp at h
  split at h
  · rename_i h'; have := hd_pos (s := s) (i := i) (by omega)
    split at h
    · rename_i h2; have := hd_pos (s := s) (i := i + 1) (by omega)
      have := digits_ok h (by rw [len_data]; omega); rw [len_data] at this; omega
    · have := digits_ok h (by rw [len_data]; omega); rw [len_data] at this; omega
  · cases h; omega
theorem number_ok {s : ByteArray} {i j : Nat} (h : Js.number s.data.toList i = .ok j) (hi : i ≤ s.size) : i < j ∧ j ≤ s.size := by
  have hm := numMinus_le hi
  have hm' : i ≤ Js.numMinus s.data.toList i := by unfold Js.numMinus; split <;> omega
  unfold Js.number at h
  rcases h1 : Js.numWhole s.data.toList (Js.numMinus s.data.toList i) with e | j1 <;> rw [h1] at h
  · cases h
  simp only at h
  have := numWhole_ok h1 hm
  rcases h2 : Js.numFrac s.data.toList j1 with e | j2 <;> rw [h2] at h
  · cases h
  simp only at h
  have := numFrac_ok h2 (by omega)
  have := numExp_ok h (by omega)
  omega

set_option maxHeartbeats 1000000 in
theorem number_calls (b : Nat) (s : ByteArray) (i : Nat) (w : World) (hs : s.size ≤ 9223372036854775000) (hi : i ≤ s.size) (hr : RdAt w b s i) :
    Calls Tryd.prog 25 #[.pointer (some ⟨b, 0, none⟩)] w (RPost b s w (noVal (Js.number s.data.toList i))) := by
  have hh : ∀ w j, RdAt w b s j → j ≤ s.size → Calls Tryd.prog 20 #[.pointer (some ⟨b, 0, none⟩)] w fun e w' => e = .returned (.int .u8 ((Js.hd s.data.toList j : Nat) : Int)) ∧ ∃ n, w' = w.drewN n := fun w j h hj => hand_calls b s j w (by omega) hj h
  have H := Lib.hid hh
  clear hh
  have hN : ∃ r, Js.number s.data.toList i = r := ⟨_, rfl⟩
  obtain ⟨r, hN⟩ := hN
  rw [hN]
  have HN := Lib.hid hN
  clear hN
  have hj0 := numMinus_le hi
  go_enter Tryd.func25, Tryd.ntmps25
  go_upto_if 6 with (go_at_call 20; refine (H.out _ i hr hi).mono ?_; rintro e w' ⟨rfl, n, rfl⟩)
  go_cut [] (fun wx => RdAt wx b s (Js.numMinus s.data.toList i) ∧ w.grownBy wx (some b))
  case first =>
    have c1 := (hr.drewN n).c1
    have f1 := (hr.drewN n).f1
    by_cases h : Js.hd s.data.toList i = 45
    · have ht := eq_t (show ((Js.hd s.data.toList i : Nat) : Int) = 45 by omega)
      have hm : Js.numMinus s.data.toList i = i + 1 := if_pos h
      have HM := Lib.hid hm
      clear hm h hj0
      go_wp2
      go_meet
      exact ⟨by rw [HM.out]; exact (hr.drewN n).set _ (by omega), gb_setCell (gb_drewN (World.grownBy.refl _ _) _) (.inr rfl) _⟩
    · have ht := eq_f (show ((Js.hd s.data.toList i : Nat) : Int) ≠ 45 by omega)
      have hm : Js.numMinus s.data.toList i = i := if_neg h
      have HM := Lib.hid hm
      clear hm h hj0
      go_wp2
      go_meet
      exact ⟨by rw [HM.out]; exact hr.drewN n, gb_drewN (World.grownBy.refl _ _) _⟩
  case rest =>
    obtain ⟨hr1, hg1⟩ := hcut
    obtain ⟨j0, hJ⟩ : ∃ j0, Js.numMinus s.data.toList i = j0 := ⟨_, rfl⟩
    rw [hJ] at hj0 hr1
    have hN := HN.out
    unfold Js.number at hN
    rw [hJ] at hN
    clear hJ HN
    go_upto_if 16 with (go_at_call 20; refine (H.out _ j0 (by first | exact hr1 | exact hr1.drewN _) hj0).mono ?_; rintro e w' ⟨rfl, n, rfl⟩)
    have c1 := (hr1.drewN n).c1
    have f1 := (hr1.drewN n).f1
    rcases h1 : Js.numWhole s.data.toList j0 with ⟨p, q⟩ | j1
    · rw [h1] at hN
      have h48 : Js.hd s.data.toList j0 ≠ 48 := by intro h; unfold Js.numWhole at h1; rw [if_pos h] at h1; cases h1
      have hD : Js.digits s.data.toList j0 = .error (p, q) := by unfold Js.numWhole at h1; rw [if_neg h48] at h1; exact h1
      have ht := eq_f (show ((Js.hd s.data.toList j0 : Nat) : Int) ≠ 48 by omega)
      have HD := Lib.hid hD
      have HN := Lib.hid hN
      clear hD hN h48 h1
      go_wp2_with (go_at_call 38; refine (digits_calls b s j0 _ hs hj0 (by first | exact hr1 | exact hr1.drewN _ | exact (hr1.drewN _).set _ (by omega))).mono ?_; rintro e w' hp; rw [HD.out] at hp; obtain ⟨rfl, hg2⟩ := RPost.error hp; clear hp)
      exact end_panic rfl (RPost.mkErr (by rw [← HN.out]; rfl) rfl ((gb_drewN hg1 _).trans hg2))
    have hj1 := (numWhole_ok h1 hj0).2
    rw [h1] at hN
    simp only at hN
    have HN := Lib.hid hN
    have H1 := Lib.hid h1
    clear hN h1
    go_cut [] (fun wx => RdAt wx b s j1 ∧ w.grownBy wx (some b))
    case first =>
      have h1 := H1.out
      unfold Js.numWhole at h1
      by_cases h48 : Js.hd s.data.toList j0 = 48
      · rw [if_pos h48] at h1
        cases h1
        have ht := eq_t (show ((Js.hd s.data.toList j0 : Nat) : Int) = 48 by omega)
        clear h48 H1 HN
        go_wp2
        go_meet
        exact ⟨(hr1.drewN n).set _ (by omega), gb_setCell (gb_drewN hg1 _) (.inr rfl) _⟩
      · rw [if_neg h48] at h1
        have ht := eq_f (show ((Js.hd s.data.toList j0 : Nat) : Int) ≠ 48 by omega)
        have HD := Lib.hid h1
        clear h48 H1 HN h1
        go_wp2_with (go_at_call 38; refine (digits_calls b s j0 _ hs hj0 (by first | exact hr1 | exact hr1.drewN _ | exact (hr1.drewN _).set _ (by omega))).mono ?_; rintro e w' hp; rw [HD.out] at hp; obtain ⟨rfl, hr2, hg2⟩ := RPost.ok hp; clear hp)
        go_meet
        exact ⟨hr2, (gb_drewN hg1 _).trans hg2⟩
    case rest =>
      obtain ⟨hr3, hg3⟩ := hcut
      clear hr1 hg1 c1 f1 H1
      go_upto_if 28 with (go_at_call 20; refine (H.out _ j1 (by first | exact hr3 | exact hr3.drewN _) hj1).mono ?_; rintro e w' ⟨rfl, n, rfl⟩)
      have c1 := (hr3.drewN n).c1
      have f1 := (hr3.drewN n).f1
      have hN := HN.out
      clear HN
      rcases h2 : Js.numFrac s.data.toList j1 with ⟨p, q⟩ | j2
      · rw [h2] at hN
        have h46 : Js.hd s.data.toList j1 = 46 := by
          rcases Nat.decEq (Js.hd s.data.toList j1) 46 with h | h
          · unfold Js.numFrac at h2; rw [if_neg h] at h2; cases h2
          · exact h
        have hD : Js.digits s.data.toList (j1 + 1) = .error (p, q) := by unfold Js.numFrac at h2; rw [if_pos h46] at h2; exact h2
        have hj1' := hd_pos (s := s) (i := j1) (by omega)
        have ht := eq_t (show ((Js.hd s.data.toList j1 : Nat) : Int) = 46 by omega)
        have HD := Lib.hid hD
        have HN := Lib.hid hN
        clear hD hN h46 h2
        go_wp2_with (go_at_call 38; refine (digits_calls b s (j1 + 1) _ hs (by omega) (by first | exact hr3 | exact hr3.drewN _ | exact (hr3.drewN _).set _ (by omega))).mono ?_; rintro e w' hp; rw [HD.out] at hp; obtain ⟨rfl, hg2⟩ := RPost.error hp; clear hp)
        exact end_panic rfl (RPost.mkErr (by rw [← HN.out]; rfl) rfl (((gb_setCell (gb_drewN hg3 _) (.inr rfl) _)).trans hg2))
      have hj2 := (numFrac_ok h2 hj1).2
      rw [h2] at hN
      simp only at hN
      have HN := Lib.hid hN
      have H2 := Lib.hid h2
      clear hN h2
      go_cut [] (fun wx => RdAt wx b s j2 ∧ w.grownBy wx (some b))
      case first =>
        have h2 := H2.out
        unfold Js.numFrac at h2
        by_cases h46 : Js.hd s.data.toList j1 = 46
        · rw [if_pos h46] at h2
          have hj1' := hd_pos (s := s) (i := j1) (by omega)
          have ht := eq_t (show ((Js.hd s.data.toList j1 : Nat) : Int) = 46 by omega)
          have HD := Lib.hid h2
          clear h46 H2 HN h2
          go_wp2_with (go_at_call 38; refine (digits_calls b s (j1 + 1) _ hs (by omega) (by first | exact hr3 | exact hr3.drewN _ | exact (hr3.drewN _).set _ (by omega))).mono ?_; rintro e w' hp; rw [HD.out] at hp; obtain ⟨rfl, hr2, hg2⟩ := RPost.ok hp; clear hp)
          go_meet
          exact ⟨hr2, (gb_setCell (gb_drewN hg3 _) (.inr rfl) _).trans hg2⟩
        · rw [if_neg h46] at h2
          cases h2
          have ht := eq_f (show ((Js.hd s.data.toList j1 : Nat) : Int) ≠ 46 by omega)
          clear h46 H2 HN
          go_wp2
          go_meet
          exact ⟨hr3.drewN _, gb_drewN hg3 _⟩
      case rest =>
        obtain ⟨hr4, hg4⟩ := hcut
        clear hr3 hg3 c1 f1 H2
        have hN := HN.out
        clear HN
        unfold Js.numExp at hN
        by_cases he : Js.hd s.data.toList j2 = 101 ∨ Js.hd s.data.toList j2 = 69
        · rw [if_pos he] at hN
          have hj2' := hd_pos (s := s) (i := j2) (by omega)
          have c1 := hr4.c1
          have f1 := hr4.f1
          obtain ⟨j3, hJ⟩ : ∃ j3, (if Js.hd s.data.toList (j2 + 1) = 43 ∨ Js.hd s.data.toList (j2 + 1) = 45 then j2 + 2 else j2 + 1) = j3 := ⟨_, rfl⟩
          rw [hJ] at hN
          have hj3 : j3 ≤ s.size := by
            subst hJ; split
            · rename_i h; have := hd_pos (s := s) (i := j2 + 1) (by omega); omega
            · omega
          have HN := Lib.hid hN
          have HJ := Lib.hid hJ
          clear hN hJ
          have main : ∀ wy, RdAt wy b s j3 → w.grownBy wy (some b) → Calls Tryd.prog 38 #[.pointer (some ⟨b, 0, none⟩)] wy (RPost b s w (noVal r)) := by
            intro wy hy hgy
            refine (digits_calls b s j3 wy hs hj3 hy).mono ?_
            intro e w' hp
            rw [HN.out] at hp
            exact ⟨hgy.trans hp.1, hp.2⟩
          have M := Lib.hid main
          clear main
          by_cases e1 : Js.hd s.data.toList j2 = 101
          · have et := eq_t (show ((Js.hd s.data.toList j2 : Nat) : Int) = 101 by omega)
            clear e1 he
            by_cases s1 : Js.hd s.data.toList (j2 + 1) = 43
            · have hj3' : j3 = j2 + 2 := by rw [← HJ.out, if_pos (.inl s1)]
              have st := eq_t (show ((Js.hd s.data.toList (j2 + 1) : Nat) : Int) = 43 by omega)
              have hin := hd_pos (s := s) (i := j2 + 1) (by omega)
              clear s1 HJ
              have HJ3 := Lib.hid hj3'
              clear hj3'
              go_wp2_with fail
              refine (H.out _ j2 (by first | exact hr4 | exact hr4.drewN _ | exact (hr4.drewN _).set _ (by omega)) hj2).mono ?_; rintro e w' ⟨rfl, m, rfl⟩
              go_wp2_with fail
              refine (H.out _ (j2 + 1) ((hr4.drewN _).set _ (by omega)) (by omega)).mono ?_; rintro e w' ⟨rfl, m2, rfl⟩
              go_wp2_with fail
              refine (M.out _ (by rw [HJ3.out]; first | exact (((hr4.drewN _).set (j2 + 1) (by omega)).drewN _).set _ (by omega) | exact ((hr4.drewN _).set (j2 + 1) (by omega)).drewN _) (by first | exact gb_setCell (gb_drewN (gb_setCell (gb_drewN hg4 _) (.inr rfl) _) _) (.inr rfl) _ | exact gb_drewN (gb_setCell (gb_drewN hg4 _) (.inr rfl) _) _)).mono ?_
              intro e w' hp
              rcases r with ⟨p, q⟩ | j4
              · obtain ⟨rfl, hg2⟩ := RPost.error hp
                exact end_panic rfl hp
              · obtain ⟨rfl, hr2, hg2⟩ := RPost.ok hp
                go_wp2
                go_end0
                exact hp
            · have sf := eq_f (show ((Js.hd s.data.toList (j2 + 1) : Nat) : Int) ≠ 43 by omega)
              by_cases s2 : Js.hd s.data.toList (j2 + 1) = 45
              · have hj3' : j3 = j2 + 2 := by rw [← HJ.out, if_pos (.inr s2)]
                have st := eq_t (show ((Js.hd s.data.toList (j2 + 1) : Nat) : Int) = 45 by omega)
                have hin := hd_pos (s := s) (i := j2 + 1) (by omega)
                clear s1 s2 HJ
                have HJ3 := Lib.hid hj3'
                clear hj3'
                go_wp2_with fail
                refine (H.out _ j2 (by first | exact hr4 | exact hr4.drewN _ | exact (hr4.drewN _).set _ (by omega)) hj2).mono ?_; rintro e w' ⟨rfl, m, rfl⟩
                go_wp2_with fail
                refine (H.out _ (j2 + 1) ((hr4.drewN _).set _ (by omega)) (by omega)).mono ?_; rintro e w' ⟨rfl, m2, rfl⟩
                go_wp2_with fail
                refine (M.out _ (by rw [HJ3.out]; first | exact (((hr4.drewN _).set (j2 + 1) (by omega)).drewN _).set _ (by omega) | exact ((hr4.drewN _).set (j2 + 1) (by omega)).drewN _) (by first | exact gb_setCell (gb_drewN (gb_setCell (gb_drewN hg4 _) (.inr rfl) _) _) (.inr rfl) _ | exact gb_drewN (gb_setCell (gb_drewN hg4 _) (.inr rfl) _) _)).mono ?_
                intro e w' hp
                rcases r with ⟨p, q⟩ | j4
                · obtain ⟨rfl, hg2⟩ := RPost.error hp
                  exact end_panic rfl hp
                · obtain ⟨rfl, hr2, hg2⟩ := RPost.ok hp
                  go_wp2
                  go_end0
                  exact hp
              · have hj3' : j3 = j2 + 1 := by rw [← HJ.out, if_neg (by omega)]
                have st := eq_f (show ((Js.hd s.data.toList (j2 + 1) : Nat) : Int) ≠ 45 by omega)
                clear s1 s2 HJ
                have HJ3 := Lib.hid hj3'
                clear hj3'
                go_wp2_with fail
                refine (H.out _ j2 (by first | exact hr4 | exact hr4.drewN _ | exact (hr4.drewN _).set _ (by omega)) hj2).mono ?_; rintro e w' ⟨rfl, m, rfl⟩
                go_wp2_with fail
                refine (H.out _ (j2 + 1) ((hr4.drewN _).set _ (by omega)) (by omega)).mono ?_; rintro e w' ⟨rfl, m2, rfl⟩
                go_wp2_with fail
                refine (M.out _ (by rw [HJ3.out]; first | exact (((hr4.drewN _).set (j2 + 1) (by omega)).drewN _).set _ (by omega) | exact ((hr4.drewN _).set (j2 + 1) (by omega)).drewN _) (by first | exact gb_setCell (gb_drewN (gb_setCell (gb_drewN hg4 _) (.inr rfl) _) _) (.inr rfl) _ | exact gb_drewN (gb_setCell (gb_drewN hg4 _) (.inr rfl) _) _)).mono ?_
                intro e w' hp
                rcases r with ⟨p, q⟩ | j4
                · obtain ⟨rfl, hg2⟩ := RPost.error hp
                  exact end_panic rfl hp
                · obtain ⟨rfl, hr2, hg2⟩ := RPost.ok hp
                  go_wp2
                  go_end0
                  exact hp
          · have ef := eq_f (show ((Js.hd s.data.toList j2 : Nat) : Int) ≠ 101 by omega)
            have et := eq_t (show ((Js.hd s.data.toList j2 : Nat) : Int) = 69 by omega)
            clear e1 he
            by_cases s1 : Js.hd s.data.toList (j2 + 1) = 43
            · have hj3' : j3 = j2 + 2 := by rw [← HJ.out, if_pos (.inl s1)]
              have st := eq_t (show ((Js.hd s.data.toList (j2 + 1) : Nat) : Int) = 43 by omega)
              have hin := hd_pos (s := s) (i := j2 + 1) (by omega)
              clear s1 HJ
              have HJ3 := Lib.hid hj3'
              clear hj3'
              go_wp2_with fail
              refine (H.out _ j2 (by first | exact hr4 | exact hr4.drewN _ | exact (hr4.drewN _).set _ (by omega)) hj2).mono ?_; rintro e w' ⟨rfl, m, rfl⟩
              go_wp2_with fail
              refine (H.out _ (j2 + 1) ((hr4.drewN _).set _ (by omega)) (by omega)).mono ?_; rintro e w' ⟨rfl, m2, rfl⟩
              go_wp2_with fail
              refine (M.out _ (by rw [HJ3.out]; first | exact (((hr4.drewN _).set (j2 + 1) (by omega)).drewN _).set _ (by omega) | exact ((hr4.drewN _).set (j2 + 1) (by omega)).drewN _) (by first | exact gb_setCell (gb_drewN (gb_setCell (gb_drewN hg4 _) (.inr rfl) _) _) (.inr rfl) _ | exact gb_drewN (gb_setCell (gb_drewN hg4 _) (.inr rfl) _) _)).mono ?_
              intro e w' hp
              rcases r with ⟨p, q⟩ | j4
              · obtain ⟨rfl, hg2⟩ := RPost.error hp
                exact end_panic rfl hp
              · obtain ⟨rfl, hr2, hg2⟩ := RPost.ok hp
                go_wp2
                go_end0
                exact hp
            · have sf := eq_f (show ((Js.hd s.data.toList (j2 + 1) : Nat) : Int) ≠ 43 by omega)
              by_cases s2 : Js.hd s.data.toList (j2 + 1) = 45
              · have hj3' : j3 = j2 + 2 := by rw [← HJ.out, if_pos (.inr s2)]
                have st := eq_t (show ((Js.hd s.data.toList (j2 + 1) : Nat) : Int) = 45 by omega)
                have hin := hd_pos (s := s) (i := j2 + 1) (by omega)
                clear s1 s2 HJ
                have HJ3 := Lib.hid hj3'
                clear hj3'
                go_wp2_with fail
                refine (H.out _ j2 (by first | exact hr4 | exact hr4.drewN _ | exact (hr4.drewN _).set _ (by omega)) hj2).mono ?_; rintro e w' ⟨rfl, m, rfl⟩
                go_wp2_with fail
                refine (H.out _ (j2 + 1) ((hr4.drewN _).set _ (by omega)) (by omega)).mono ?_; rintro e w' ⟨rfl, m2, rfl⟩
                go_wp2_with fail
                refine (M.out _ (by rw [HJ3.out]; first | exact (((hr4.drewN _).set (j2 + 1) (by omega)).drewN _).set _ (by omega) | exact ((hr4.drewN _).set (j2 + 1) (by omega)).drewN _) (by first | exact gb_setCell (gb_drewN (gb_setCell (gb_drewN hg4 _) (.inr rfl) _) _) (.inr rfl) _ | exact gb_drewN (gb_setCell (gb_drewN hg4 _) (.inr rfl) _) _)).mono ?_
                intro e w' hp
                rcases r with ⟨p, q⟩ | j4
                · obtain ⟨rfl, hg2⟩ := RPost.error hp
                  exact end_panic rfl hp
                · obtain ⟨rfl, hr2, hg2⟩ := RPost.ok hp
                  go_wp2
                  go_end0
                  exact hp
              · have hj3' : j3 = j2 + 1 := by rw [← HJ.out, if_neg (by omega)]
                have st := eq_f (show ((Js.hd s.data.toList (j2 + 1) : Nat) : Int) ≠ 45 by omega)
                clear s1 s2 HJ
                have HJ3 := Lib.hid hj3'
                clear hj3'
                go_wp2_with fail
                refine (H.out _ j2 (by first | exact hr4 | exact hr4.drewN _ | exact (hr4.drewN _).set _ (by omega)) hj2).mono ?_; rintro e w' ⟨rfl, m, rfl⟩
                go_wp2_with fail
                refine (H.out _ (j2 + 1) ((hr4.drewN _).set _ (by omega)) (by omega)).mono ?_; rintro e w' ⟨rfl, m2, rfl⟩
                go_wp2_with fail
                refine (M.out _ (by rw [HJ3.out]; first | exact (((hr4.drewN _).set (j2 + 1) (by omega)).drewN _).set _ (by omega) | exact ((hr4.drewN _).set (j2 + 1) (by omega)).drewN _) (by first | exact gb_setCell (gb_drewN (gb_setCell (gb_drewN hg4 _) (.inr rfl) _) _) (.inr rfl) _ | exact gb_drewN (gb_setCell (gb_drewN hg4 _) (.inr rfl) _) _)).mono ?_
                intro e w' hp
                rcases r with ⟨p, q⟩ | j4
                · obtain ⟨rfl, hg2⟩ := RPost.error hp
                  exact end_panic rfl hp
                · obtain ⟨rfl, hr2, hg2⟩ := RPost.ok hp
                  go_wp2
                  go_end0
                  exact hp
        · rw [if_neg he] at hN
          have e1 := eq_f (show ((Js.hd s.data.toList j2 : Nat) : Int) ≠ 101 by omega)
          have e2 := eq_f (show ((Js.hd s.data.toList j2 : Nat) : Int) ≠ 69 by omega)
          have HN := Lib.hid hN
          clear he hN
          go_wp2_with (go_at_call 20; refine (H.out _ j2 (by first | exact hr4 | exact hr4.drewN _ | exact (hr4.drewN _).set _ (by omega)) hj2).mono ?_; rintro e w' ⟨rfl, m, rfl⟩)
          go_end0
          exact RPost.mkOk (by rw [← HN.out]; rfl) rfl (hr4.drewN _) (gb_drewN hg4 _)
end Go.Proofs.YtgnobnbbjekgnaaDoor
