import Derived.Test.YtgnobnbbjekgnaaDoorBase
/- The JSON reader's small functions: hand, stop, word. -/
namespace Go.Proofs.YtgnobnbbjekgnaaDoor
open Go.RowKit
set_option linter.unusedVariables false

/-- The reader lies in a block: its text, its place. -/
def RdAt (w : World) (b : Nat) (s : ByteArray) (i : Nat) : Prop := w.heap[b]? = some (.cells #[.string s, .int .i64 (i : Int)] 45 (0, 0))
theorem RdAt.c0 {w : World} {b : Nat} {s : ByteArray} {i : Nat} (h : RdAt w b s i) : w.cell? ⟨b, 0, none⟩ = some (.string s) := by rw [blk_cell h]; rfl
theorem RdAt.c1 {w : World} {b : Nat} {s : ByteArray} {i : Nat} (h : RdAt w b s i) : w.cell? ⟨b, 1, none⟩ = some (.int .i64 (i : Int)) := by rw [blk_cell h]; rfl
theorem RdAt.f1 {w : World} {b : Nat} {s : ByteArray} {i : Nat} (h : RdAt w b s i) : w.frozen? ⟨b, 1, none⟩ = false := blk_free h 1
theorem RdAt.lt {w : World} {b : Nat} {s : ByteArray} {i : Nat} (h : RdAt w b s i) : b < w.heap.size := lt_of_block h
theorem RdAt.set {w : World} {b : Nat} {s : ByteArray} {i : Nat} (h : RdAt w b s i) {x : Int} (j : Nat) (hx : x = (j : Int)) : RdAt (w.setCell ⟨b, 1, none⟩ (.int .i64 x)) b s j := by
  subst hx; unfold RdAt; rw [blk_set h]; rfl
theorem RdAt.drewN {w : World} {b : Nat} {s : ByteArray} {i : Nat} (h : RdAt w b s i) (n : Nat) : RdAt (w.drewN n) b s i := h
theorem RdAt.grown {w w' : World} {b : Nat} {s : ByteArray} {i : Nat} {row : Option Nat} (h : RdAt w b s i) (hg : w.grownBy w' row) (hne : some b ≠ row) : RdAt w' b s i := blk_grown h hg hne

/-- What is thrown: a place and an error's number. -/
def thrown (i : Nat) (e : Int) : List PanicEntry := [{ v := .iface 41 (.agg #[.int .i64 (i : Int), .int .i64 e]), recovered := false }]
/-- What a function of the reader comes to: its value and its new place, or what it throws. -/
def RPost (b : Nat) (s : ByteArray) (w : World) (r : Except (Nat × Int) (Value × Nat)) (e : Ending) (w' : World) : Prop :=
  w.grownBy w' (some b) ∧ match r with
  | .ok (v, j) => e = .returned v ∧ RdAt w' b s j
  | .error (j, n) => e = .panicked (thrown j n)
theorem RPost.ok {b : Nat} {s : ByteArray} {w w' : World} {v : Value} {j : Nat} {e : Ending} (h : RPost b s w (.ok (v, j)) e w') : e = .returned v ∧ RdAt w' b s j ∧ w.grownBy w' (some b) := ⟨h.2.1, h.2.2, h.1⟩
theorem RPost.error {b : Nat} {s : ByteArray} {w w' : World} {n : Int} {j : Nat} {e : Ending} (h : RPost b s w (.error (j, n)) e w') : e = .panicked (thrown j n) ∧ w.grownBy w' (some b) := ⟨h.2, h.1⟩
theorem RPost.mkOk {b : Nat} {s : ByteArray} {w w' : World} {v : Value} {j : Nat} {e : Ending} {r : Except (Nat × Int) (Value × Nat)} (h : r = .ok (v, j)) (he : e = .returned v) (hr : RdAt w' b s j) (hg : w.grownBy w' (some b)) : RPost b s w r e w' := by
  subst h; exact ⟨hg, he, hr⟩
theorem RPost.mkErr {b : Nat} {s : ByteArray} {w w' : World} {n : Int} {j : Nat} {e : Ending} {r : Except (Nat × Int) (Value × Nat)} (h : r = .error (j, n)) (he : e = .panicked (thrown j n)) (hg : w.grownBy w' (some b)) : RPost b s w r e w' := by
  subst h; exact ⟨hg, he⟩
def noVal (r : Except (Nat × Int) Nat) : Except (Nat × Int) (Value × Nat) := match r with | .ok j => .ok (.tuple #[], j) | .error e => .error e

theorem len_data (s : ByteArray) : s.data.toList.length = s.size := by rw [Array.length_toList]; rfl
theorem hd_in {s : ByteArray} {i : Nat} (h : i < s.size) : ((Js.hd s.data.toList i : Nat) : Int) = (s[i].toNat : Int) := by
  unfold Js.hd
  rw [List.getD_eq_getElem?_getD, List.getElem?_eq_getElem (by rw [len_data]; exact h)]
  rfl
theorem hd_out {l : List UInt8} {i : Nat} (h : l.length ≤ i) : Js.hd l i = 0 := by
  unfold Js.hd
  rw [List.getD_eq_getElem?_getD, List.getElem?_eq_none h]
  rfl
theorem hd_lt (l : List UInt8) (i : Nat) : Js.hd l i < 256 := by unfold Js.hd; exact UInt8.toNat_lt _
theorem hd_pos {s : ByteArray} {i : Nat} (h : 0 < Js.hd s.data.toList i) : i < s.size := by
  rcases Nat.lt_or_ge i s.size with h' | h'
  · exact h'
  · rw [hd_out (by rw [len_data]; exact h')] at h; omega

set_option maxHeartbeats 400000 in
theorem hand_calls (b : Nat) (s : ByteArray) (i : Nat) (w : World) (hs : s.size ≤ 9223372036854775807) (hi : i ≤ s.size) (hr : RdAt w b s i) :
    Calls Tryd.prog 20 #[.pointer (some ⟨b, 0, none⟩)] w fun e w' => e = .returned (.int .u8 ((Js.hd s.data.toList i : Nat) : Int)) ∧ ∃ n, w' = w.drewN n := by
  have c0 := hr.c0
  have c1 := hr.c1
  clear hr
  have h1 : (0 : Int) ≤ i := by omega
  by_cases hlt : i < s.size
  · have h0 : (i : Int) < s.size := by omega
    have H := Lib.hid (hd_in hlt)
    go_enter Tryd.func20, Tryd.ntmps20
    go_wp2
    go_quiet (fail)
    go_wp2
    go_quiet (fail)
    go_wp2
    go_ret
    exact ⟨by rw [H.out]; rfl, _, World.drewN_drewN ..⟩
  · have h0 : (s.size : Int) ≤ i := by omega
    have H := Lib.hid (hd_out (l := s.data.toList) (i := i) (by rw [len_data]; omega))
    go_enter Tryd.func20, Tryd.ntmps20
    go_wp2
    go_quiet (fail)
    go_wp2
    go_ret
    exact ⟨by rw [H.out]; rfl, _, rfl⟩

set_option maxHeartbeats 400000 in
theorem stop_calls (b : Nat) (s : ByteArray) (i : Nat) (w : World) (hr : RdAt w b s i) :
    Calls Tryd.prog 15 #[.pointer (some ⟨b, 0, none⟩)] w fun e w' => e = .panicked (thrown i 30) ∧ w = w' := by
  have c1 := hr.c1
  clear hr
  go_enter Tryd.func15, Tryd.ntmps15
  go_wp2
  exact ⟨rfl, rfl, rfl⟩

theorem word_drop (l : List UInt8) (W : ByteArray) (i j : Nat) (h : j < W.size) :
    Js.word l ((W.data.toList.drop j).map UInt8.toNat) (i + j) = if Js.hd l (i + j) = W[j].toNat then Js.word l ((W.data.toList.drop (j + 1)).map UInt8.toNat) (i + j + 1) else .error (i + j, 30) := by
  have h' : j < W.data.toList.length := by rw [len_data]; exact h
  rw [List.drop_eq_getElem_cons h', List.map_cons]
  rfl
theorem word_pos {W : ByteArray} {j : Nat} (hz : ∀ c ∈ W.data.toList, c ≠ 0) (h : j < W.size) : 0 < W[j].toNat := by
  have h' : j < W.data.toList.length := by rw [len_data]; exact h
  have := hz _ (List.getElem_mem h')
  have e : W.data.toList[j] = W[j] := rfl
  rw [e] at this
  rcases Nat.eq_zero_or_pos (W[j].toNat) with h0 | h0
  · exact absurd (UInt8.toNat_inj.1 (by rw [h0]; rfl)) this
  · exact h0

set_option maxHeartbeats 400000 in
theorem word_calls (b : Nat) (s W : ByteArray) (i : Nat) (w : World) (hs : s.size ≤ 9223372036854775807) (hW : W.size ≤ 1000) (hi : i ≤ s.size) (hr : RdAt w b s i) (hz : ∀ c ∈ W.data.toList, c ≠ 0) :
    Calls Tryd.prog 21 #[.pointer (some ⟨b, 0, none⟩), .string W] w (RPost b s w (noVal (Js.word s.data.toList (W.data.toList.map UInt8.toNat) i))) := by
  go_enter Tryd.func21, Tryd.ntmps21
  go_wp2
  go_loopg [7] (W.size + 1) (fun n k wr => ∃ j : Nat, k = .int .i64 (j : Int) ∧ j ≤ W.size ∧ n = W.size + 1 - j ∧ i + j ≤ s.size ∧ RdAt wr b s (i + j) ∧ w.grownBy wr (some b) ∧
    Js.word s.data.toList (W.data.toList.map UInt8.toNat) i = Js.word s.data.toList ((W.data.toList.drop j).map UInt8.toNat) (i + j))
  case atStart => exact ⟨0, rfl, Nat.zero_le _, rfl, by omega, hr, World.grownBy.refl _ _, rfl⟩
  case round =>
    obtain ⟨j, rfl, hj, hn, hij, hr', hg, hw⟩ := hrel
    by_cases hlt : j < W.size
    · have hd := word_drop s.data.toList W i j hlt
      have h0 : (0 : Int) ≤ j := by omega
      have h1 : (j : Int) < W.size := by omega
      by_cases hc : Js.hd s.data.toList (i + j) = W[j].toNat
      · have hne := ne_f (show ((Js.hd s.data.toList (i + j) : Nat) : Int) = (W[j].toNat : Int) by rw [hc])
        rw [if_pos hc] at hd
        have hin : i + j < s.size := hd_pos (by rw [hc]; exact word_pos hz hlt)
        have A : Aside (Js.word s.data.toList (W.data.toList.map UInt8.toNat) i = Js.word s.data.toList ((W.data.toList.drop (j + 1)).map UInt8.toNat) (i + j + 1) ∧ gk = W.size + 1 - j) := ⟨hw.trans hd, hn⟩
        clear hw hd hc hn
        have c0 := hr'.c0
        have c1 := hr'.c1
        have f1 := hr'.f1
        go_wp2
        go_quiet ((go_at_call 20; exact Calls.quiet_of (hand_calls b s (i + j) _ hs hij (hr'.drewN _))))
        go_wp2
        obtain ⟨hw, hn⟩ := A.out
        go_roundg (W.size + 1 - (j + 1))
        case measure => omega
        case rel => exact ⟨j + 1, by go_num, by omega, rfl, by omega, (hr'.drewN _).set (i + (j + 1)) (by omega), gb_setCell (gb_drewN hg _) (.inr rfl) _, hw⟩
      · have hne := ne_t (show ((Js.hd s.data.toList (i + j) : Nat) : Int) ≠ (W[j].toNat : Int) by omega)
        rw [if_neg hc] at hd
        have A : Aside (Js.word s.data.toList (W.data.toList.map UInt8.toNat) i = .error (i + j, 30)) := hw.trans hd
        clear hw hd hc hn
        go_wp2
        go_quiet ((go_at_call 20; exact Calls.quiet_of (hand_calls b s (i + j) _ hs hij (hr'.drewN _))))
        go_wp2_with (go_at_call 15; refine (stop_calls b s (i + j) _ (hr'.drewN _)).mono ?_; rintro e w' ⟨rfl, rfl⟩)
        exact end_panic rfl (RPost.mkErr (by rw [A.out]; rfl) rfl (gb_drewN hg _))
    · have hj' : j = W.size := by omega
      subst hj'
      have A : Aside (Js.word s.data.toList (W.data.toList.map UInt8.toNat) i = .ok (i + W.size)) := hw.trans (by rw [List.drop_of_length_le (by rw [len_data]; exact Nat.le_refl _)]; rfl)
      clear hw hn
      go_wp2
      go_end0
      exact RPost.mkOk (by rw [A.out]; rfl) rfl hr' hg

/-! ### Digits, numbers -/
theorem tw_step {p : UInt8 → Bool} {l : List UInt8} {i : Nat} (h : i < l.length) (hp : p l[i] = true) : i + ((l.drop i).takeWhile p).length = i + 1 + ((l.drop (i + 1)).takeWhile p).length := by
  rw [List.drop_eq_getElem_cons h, List.takeWhile_cons, if_pos hp, List.length_cons]; omega
theorem tw_stop {p : UInt8 → Bool} {l : List UInt8} {i : Nat} (h : ∀ h : i < l.length, p l[i] = false) : i + ((l.drop i).takeWhile p).length = i := by
  rcases Nat.lt_or_ge i l.length with h' | h'
  · rw [List.drop_eq_getElem_cons h', List.takeWhile_cons, if_neg (by rw [h h']; simp)]; rfl
  · rw [List.drop_of_length_le h']; rfl
theorem hd_get {l : List UInt8} {i : Nat} (h : i < l.length) : Js.hd l i = l[i].toNat := by
  unfold Js.hd; rw [List.getD_eq_getElem?_getD, List.getElem?_eq_getElem h]; rfl
theorem isDigit_iff (c : UInt8) : Js.isDigit c = true ↔ 48 ≤ c.toNat ∧ c.toNat ≤ 57 := by
  unfold Js.isDigit; simp [UInt8.le_iff_toNat_le]
theorem digit_step {l : List UInt8} {i : Nat} (h : 48 ≤ Js.hd l i ∧ Js.hd l i ≤ 57) : Js.digitsEnd l i = Js.digitsEnd l (i + 1) := by
  have hlt : i < l.length := by
    rcases Nat.lt_or_ge i l.length with h' | h'
    · exact h'
    · rw [hd_out h'] at h; omega
  exact tw_step hlt ((isDigit_iff _).2 (by rw [← hd_get hlt]; exact h))
theorem digit_stop {l : List UInt8} {i : Nat} (h : ¬(48 ≤ Js.hd l i ∧ Js.hd l i ≤ 57)) : Js.digitsEnd l i = i := by
  refine tw_stop fun hlt => ?_
  rw [Bool.eq_false_iff]
  intro hd
  exact h (by rw [hd_get hlt]; exact (isDigit_iff _).1 hd)
theorem digitsEnd_ge (l : List UInt8) (i : Nat) : i ≤ Js.digitsEnd l i := by unfold Js.digitsEnd; omega

set_option maxHeartbeats 400000 in
theorem digits_calls (b : Nat) (s : ByteArray) (i : Nat) (w : World) (hs : s.size ≤ 9223372036854775000) (hi : i ≤ s.size) (hr : RdAt w b s i) :
    Calls Tryd.prog 38 #[.pointer (some ⟨b, 0, none⟩)] w (RPost b s w (noVal (Js.digits s.data.toList i))) := by
  have hh : ∀ w j, RdAt w b s j → j ≤ s.size → Calls Tryd.prog 20 #[.pointer (some ⟨b, 0, none⟩)] w fun e w' => e = .returned (.int .u8 ((Js.hd s.data.toList j : Nat) : Int)) ∧ ∃ n, w' = w.drewN n := fun w j h hj => hand_calls b s j w (by omega) hj h
  have H := Lib.hid hh
  clear hh
  by_cases hd : 48 ≤ Js.hd s.data.toList i ∧ Js.hd s.data.toList i ≤ 57
  · have A : Aside (Js.digits s.data.toList i = .ok (Js.digitsEnd s.data.toList i)) := by show _ = _; unfold Js.digits; rw [if_pos hd]
    have h1 : (48 : Int) ≤ (Js.hd s.data.toList i : Nat) := by omega
    have h2 : ((Js.hd s.data.toList i : Nat) : Int) ≤ 57 := by omega
    clear hd
    go_enter Tryd.func38, Tryd.ntmps38
    go_wp2_with (go_at_call 20; refine (H.out _ i hr hi).mono ?_; rintro e w' ⟨rfl, n, rfl⟩)
    go_loopg [] (s.size + 1 - i) (fun n wr => ∃ j : Nat, n = s.size + 1 - j ∧ j ≤ s.size ∧ RdAt wr b s j ∧ w.grownBy wr (some b) ∧ Js.digitsEnd s.data.toList i = Js.digitsEnd s.data.toList j)
    case atStart => exact ⟨i, rfl, hi, hr.drewN _, gb_drewN (World.grownBy.refl _ _) _, rfl⟩
    case round =>
      obtain ⟨j, hn, hj, hr', hg, he⟩ := hrel
      have c1 := hr'.c1
      have f1 := hr'.f1
      by_cases hj1 : 48 ≤ Js.hd s.data.toList j
      · by_cases hj2 : Js.hd s.data.toList j ≤ 57
        · have B : Aside (Js.digitsEnd s.data.toList i = Js.digitsEnd s.data.toList (j + 1) ∧ gk = s.size + 1 - j) := ⟨he.trans (digit_step ⟨hj1, hj2⟩), hn⟩
          have hlt : j < s.size := hd_pos (by omega)
          have g1 : (48 : Int) ≤ (Js.hd s.data.toList j : Nat) := by omega
          have g2 : ((Js.hd s.data.toList j : Nat) : Int) ≤ 57 := by omega
          clear he hn hj1 hj2
          go_wp2_with (go_at_call 20; refine (H.out _ j (by first | exact hr' | exact hr'.drewN _) hj).mono ?_; rintro e w' ⟨rfl, n, rfl⟩)
          obtain ⟨he, hn⟩ := B.out
          go_roundg (s.size + 1 - (j + 1))
          case measure => omega
          case rel => exact ⟨j + 1, rfl, by omega, (hr'.drewN _).set (j + 1) (by omega), gb_setCell (gb_drewN hg _) (.inr rfl) _, he⟩
        · have B : Aside (Js.digitsEnd s.data.toList i = j) := he.trans (digit_stop (by omega))
          have g1 : (48 : Int) ≤ (Js.hd s.data.toList j : Nat) := by omega
          have g2 : (57 : Int) < (Js.hd s.data.toList j : Nat) := by omega
          clear he hn hj1 hj2
          go_wp2_with (go_at_call 20; refine (H.out _ j (by first | exact hr' | exact hr'.drewN _) hj).mono ?_; rintro e w' ⟨rfl, n, rfl⟩)
          go_end0
          exact RPost.mkOk (by rw [A.out]; rfl) rfl (by rw [B.out]; exact hr'.drewN _) (gb_drewN hg _)
      · have B : Aside (Js.digitsEnd s.data.toList i = j) := he.trans (digit_stop (by omega))
        have g1 : ((Js.hd s.data.toList j : Nat) : Int) < 48 := by omega
        clear he hn hj1
        go_wp2_with (go_at_call 20; refine (H.out _ j hr' hj).mono ?_; rintro e w' ⟨rfl, n, rfl⟩)
        go_end0
        exact RPost.mkOk (by rw [A.out]; rfl) rfl (by rw [B.out]; exact hr'.drewN _) (gb_drewN hg _)
  · have A : Aside (Js.digits s.data.toList i = .error (i, 30)) := by show _ = _; unfold Js.digits; rw [if_neg hd]
    have S := Lib.hid (fun n => stop_calls b s i (w.drewN n) (hr.drewN n))
    by_cases h1 : Js.hd s.data.toList i < 48
    · have g1 : ((Js.hd s.data.toList i : Nat) : Int) < 48 := by omega
      clear hd h1
      go_enter Tryd.func38, Tryd.ntmps38
      go_wp2_with (first | (go_at_call 20; refine (H.out _ i hr hi).mono ?_; rintro e w' ⟨rfl, n, rfl⟩) | (go_at_call 15; refine (S.out _).mono ?_; rintro e w' ⟨rfl, rfl⟩))
      exact end_panic rfl (RPost.mkErr (by rw [A.out]; rfl) rfl (gb_drewN (World.grownBy.refl _ _) _))
    · have g1 : (57 : Int) < (Js.hd s.data.toList i : Nat) := by omega
      have g2 : (48 : Int) ≤ (Js.hd s.data.toList i : Nat) := by omega
      clear hd h1
      go_enter Tryd.func38, Tryd.ntmps38
      go_wp2_with (first | (go_at_call 20; refine (H.out _ i hr hi).mono ?_; rintro e w' ⟨rfl, n, rfl⟩) | (go_at_call 15; refine (S.out _).mono ?_; rintro e w' ⟨rfl, rfl⟩))
      exact end_panic rfl (RPost.mkErr (by rw [A.out]; rfl) rfl (gb_drewN (World.grownBy.refl _ _) _))
end Go.Proofs.YtgnobnbbjekgnaaDoor
