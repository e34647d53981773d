import Derived.Test.YtgnobnbbjekgnaaDoorRdr
import Derived.Test.YtgnobnbbjekgnaaDoorShelf
/- The JSON reader: blanks, numbers. -/
namespace Go.Proofs.YtgnobnbbjekgnaaDoor
open Go.RowKit
set_option linter.unusedVariables false

/-! ### Blanks -/
theorem isBlank_iff (c : UInt8) : Js.isBlank c = true ↔ c = 32 ∨ c = 9 ∨ c = 10 ∨ c = 13 := by
  unfold Js.isBlank; simp [or_assoc]
theorem blank_step {l : List UInt8} {i : Nat} (h : i < l.length) (hb : Js.isBlank l[i] = true) : Js.blanks l i = Js.blanks l (i + 1) := tw_step h hb
theorem blank_stop {l : List UInt8} {i : Nat} (h : ∀ h : i < l.length, Js.isBlank l[i] = false) : Js.blanks l i = i := tw_stop h
theorem blanks_ge (l : List UInt8) (i : Nat) : i ≤ Js.blanks l i := by unfold Js.blanks; omega
theorem tw_le {p : UInt8 → Bool} (l : List UInt8) (i : Nat) (h : i ≤ l.length) : i + ((l.drop i).takeWhile p).length ≤ l.length := by
  have := (List.takeWhile_sublist p (l := l.drop i)).length_le
  rw [List.length_drop] at this; omega
theorem blanks_le (l : List UInt8) (i : Nat) (h : i ≤ l.length) : Js.blanks l i ≤ l.length := tw_le l i h
theorem digitsEnd_le (l : List UInt8) (i : Nat) (h : i ≤ l.length) : Js.digitsEnd l i ≤ l.length := tw_le l i h
theorem digits_ok {l : List UInt8} {i j : Nat} (h : Js.digits l i = .ok j) (hi : i ≤ l.length) : i < j ∧ j ≤ l.length := by
  unfold Js.digits at h
  split at h
  · rename_i hd
    cases h
    rw [digit_step hd]
    have := digitsEnd_ge l (i + 1)
    refine ⟨by omega, ?_⟩
    rw [← digit_step hd]
    exact digitsEnd_le l i hi
  · cases h

/-- Where a byte stands among others. -/
def ixOf (l : List UInt8) (c : UInt8) : Int := Lib.indexByte l c
theorem ix_calls (l : ByteArray) (c : UInt8) (w : World) :
    Calls Tryd.prog 19 #[.string l, .int .u8 (c.toNat : Int)] w fun e w' => e = .returned (.int .i64 (ixOf l.data.toList c)) ∧ w' = w :=
  (Tryd.strings_IndexByte l (c.toNat : Int) w).mono fun _ _ ⟨he, hw⟩ => ⟨by
    rw [he]
    have e : ((c.toNat : Int)).toNat.toUInt8 = c := by simp
    rw [e]; rfl, hw⟩
theorem ix_nonneg (l : List UInt8) (c : UInt8) : 0 ≤ ixOf l c ↔ c ∈ l := by
  have key : -1 ≤ Lib.indexByte l c ∧ (0 ≤ Lib.indexByte l c ↔ c ∈ l) := by
    induction l with
    | nil => simp [Lib.indexByte]
    | cons b l ih =>
      by_cases hb : b = c
      · simp [Lib.indexByte, hb]
      · by_cases h1 : Lib.indexByte l c = -1
        · have := ih.2
          rw [h1] at this
          simp [Lib.indexByte, hb, h1, Ne.symm hb]
          exact fun h => absurd (this.2 h) (by omega)
        · simp [Lib.indexByte, hb, h1, Ne.symm hb]
          rw [← ih.2]
          have := ih.1
          omega
  exact key.2

set_option maxHeartbeats 400000 in
theorem blanks_calls (b : Nat) (s : ByteArray) (i : Nat) (w : World) (hs : s.size ≤ 9223372036854775000) (hi : i ≤ s.size) (hr : RdAt w b s i) :
    Calls Tryd.prog 13 #[.pointer (some ⟨b, 0, none⟩)] w fun e w' => e = .returned (.tuple #[]) ∧ RdAt w' b s (Js.blanks s.data.toList i) ∧ w.grownBy w' (some b) := by
  go_enter Tryd.func13, Tryd.ntmps13
  go_wp2
  go_loopg [] (s.size + 1 - i) (fun n wr => ∃ j : Nat, n = s.size + 1 - j ∧ j ≤ s.size ∧ RdAt wr b s j ∧ w.grownBy wr (some b) ∧ Js.blanks s.data.toList i = Js.blanks s.data.toList j)
  case atStart => exact ⟨i, rfl, hi, hr, World.grownBy.refl _ _, rfl⟩
  case round =>
    obtain ⟨j, hn, hj, hr', hg, he⟩ := hrel
    have c0 := hr'.c0
    have c1 := hr'.c1
    have f1 := hr'.f1
    have h0 : (0 : Int) ≤ j := by omega
    by_cases hlt : j < s.size
    · have h1 : (j : Int) < s.size := by omega
      have h1' : decide ((j : Int) < (s.size : Int)) = true := lt_t h1
      have hl : j < s.data.toList.length := by rw [len_data]; exact hlt
      by_cases hb : Js.isBlank s[j] = true
      · have h2 : (0 : Int) ≤ ixOf [32, 9, 10, 13] s[j] := by
          rw [ix_nonneg]; have := (isBlank_iff _).1 hb; simp; exact this
        have B : Aside (Js.blanks s.data.toList i = Js.blanks s.data.toList (j + 1) ∧ gk = s.size + 1 - j) := ⟨he.trans (blank_step hl hb), hn⟩
        clear he hn hb
        go_wp2
        go_quiet ((go_at_call 19; exact Calls.quiet_of_same (ix_calls _ _ _)))
        go_wp2
        obtain ⟨he, hn⟩ := B.out
        go_roundg (s.size + 1 - (j + 1))
        case measure => omega
        case rel => exact ⟨j + 1, rfl, by omega, (hr'.drewN _).set (j + 1) (by omega), gb_setCell (gb_drewN hg _) (.inr rfl) _, he⟩
      · have h2 : ixOf [32, 9, 10, 13] s[j] < 0 := by
          rw [← Int.not_le, ix_nonneg]; have := mt (isBlank_iff s[j]).2 hb; simp; simpa using this
        have B : Aside (Js.blanks s.data.toList i = j) := he.trans (blank_stop (fun _ => Bool.eq_false_iff.2 hb))
        clear he hn hb
        go_wp2
        go_quiet ((go_at_call 19; exact Calls.quiet_of_same (ix_calls _ _ _)))
        go_wp2
        go_end0
        exact ⟨rfl, by rw [B.out]; exact hr'.drewN _, gb_drewN hg _⟩
    · have h1' : decide ((j : Int) < (s.size : Int)) = false := lt_f (by omega)
      have B : Aside (Js.blanks s.data.toList i = j) := he.trans (blank_stop (fun h => absurd h (by rw [len_data]; omega)))
      have h1 : (s.size : Int) ≤ j := by omega
      clear he hn
      go_wp2
      go_quiet (fail)
      go_wp2
      go_end0
      exact ⟨rfl, by rw [B.out]; exact hr'.drewN _, gb_drewN hg _⟩
end Go.Proofs.YtgnobnbbjekgnaaDoor
