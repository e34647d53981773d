import Derived.Test.YtgnobnbbjekgnaaDoorJson
/- Plain Lean: a text cut off at the place where its reading stops. -/
namespace Go.Proofs.YtgnobnbbjekgnaaDoor
set_option linter.unusedVariables false
namespace Js

theorem hd_take {l : List UInt8} {p k : Nat} (h : k < p) : hd (l.take p) k = hd l k := by
  unfold hd; rw [List.getD_eq_getElem?_getD, List.getD_eq_getElem?_getD, List.getElem?_take_of_lt h]
theorem hd_cut {l : List UInt8} {p k : Nat} (h : p ≤ k) : hd (l.take p) k = 0 := by
  unfold hd; rw [List.getD_eq_getElem?_getD, List.getElem?_eq_none (by rw [List.length_take]; omega)]; rfl
theorem hd_len {l : List UInt8} {k : Nat} (h : 0 < hd l k) : k < l.length := by
  rcases Nat.lt_or_ge k l.length with h' | h'
  · exact h'
  · unfold hd at h; rw [List.getD_eq_getElem?_getD, List.getElem?_eq_none h'] at h; exact absurd h (by decide)

/-- f: a reading from i on; f': the same reading of the text cut at p. -/
def CutAt {α : Type} (f f' : R α) (i p : Nat) : Prop := (∀ x j, f = .ok (x, j) → i ≤ j ∧ (j ≤ p → f' = .ok (x, j))) ∧ (∀ e, f = .error (p, e) → i ≤ p ∧ f' = .error (p, 30))
/-- .. of one that yields a place alone. -/
def CutPl (f f' : Except (Nat × Int) Nat) (i p : Nat) : Prop := (∀ j, f = .ok j → i ≤ j ∧ (j ≤ p → f' = .ok j)) ∧ (∀ e, f = .error (p, e) → i ≤ p ∧ f' = .error (p, 30))

theorem CutAt.ok {α : Type} {x : α} {i j p : Nat} (h : i ≤ j) : CutAt (.ok (x, j)) (.ok (x, j)) i p := ⟨fun y k e => by cases e; exact ⟨h, fun _ => rfl⟩, fun e h => by cases h⟩
theorem CutPl.ok {i j p : Nat} (h : i ≤ j) : CutPl (.ok j) (.ok j) i p := ⟨fun k e => by cases e; exact ⟨h, fun _ => rfl⟩, fun e h => by cases h⟩
theorem CutPl.weak {f f' : Except (Nat × Int) Nat} {i j p : Nat} (h : CutPl f f' j p) (hij : i ≤ j) : CutPl f f' i p := ⟨fun k e => ⟨by have := (h.1 k e).1; omega, (h.1 k e).2⟩, fun e h' => ⟨by have := (h.2 e h').1; omega, (h.2 e h').2⟩⟩

theorem word_cut (l : List UInt8) (p : Nat) : ∀ (W : List Nat) (i : Nat), (∀ c ∈ W, 0 < c) → CutPl (word l W i) (word (l.take p) W i) i p
  | [], i, _ => CutPl.ok (Nat.le_refl _)
  | c :: W, i, hc => by
    have ih := word_cut l p W (i + 1) (fun c h => hc c (by simp [h]))
    have h0 := hc c (by simp)
    simp only [word]
    by_cases he : hd l i = c
    · rw [if_pos he]
      rcases Nat.lt_or_ge i p with hlt | hge
      · rw [hd_take hlt, if_pos he]
        exact ih.weak (by omega)
      · refine ⟨fun j hj => ⟨by have := (ih.1 j hj).1; omega, fun h => by have := (ih.1 j hj).1; omega⟩, fun e h => by have := (ih.2 e h).1; omega⟩
    · rw [if_neg he]
      refine ⟨(fun j h => by cases h), fun e h => ?_⟩
      cases h
      rw [if_neg (by rw [hd_cut (Nat.le_refl _)]; omega)]
      exact ⟨Nat.le_refl _, rfl⟩

/-- One step of a reading: it stops. -/
theorem CutAt.err {α β : Type} {f f' : R α} {r r' : R β} {i p : Nat} (h : CutAt f f' i p) {x : Nat × Int} (hf : f = .error x) (hr : r = .error x) (hr' : f' = .error (p, 30) → r' = .error (p, 30)) : CutAt r r' i p :=
  ⟨(fun y k e => by rw [hr] at e; cases e), fun e he => by
    rw [hr] at he
    cases he
    exact ⟨(h.2 e hf).1, hr' (h.2 e hf).2⟩⟩
/-- .. it goes on. -/
theorem CutAt.next {α β : Type} {f f' : R α} {r r' g' : R β} {i p : Nat} (h : CutAt f f' i p) {x : α} {j : Nat} (hf : f = .ok (x, j)) (hg : CutAt r g' j p) (hr' : f' = .ok (x, j) → r' = g') : CutAt r r' i p :=
  ⟨fun y k e => by
    have h1 := h.1 x j hf
    have h2 := hg.1 y k e
    refine ⟨by omega, fun hk => ?_⟩
    rw [hr' (h1.2 (by omega))]
    exact h2.2 hk, fun e he => by
    have h1 := h.1 x j hf
    have h2 := hg.2 e he
    refine ⟨by omega, ?_⟩
    rw [hr' (h1.2 h2.1)]
    exact h2.2⟩
theorem CutPl.err {β : Type} {f f' : Except (Nat × Int) Nat} {r r' : R β} {i p : Nat} (h : CutPl f f' i p) {x : Nat × Int} (hf : f = .error x) (hr : r = .error x) (hr' : f' = .error (p, 30) → r' = .error (p, 30)) : CutAt r r' i p :=
  ⟨(fun y k e => by rw [hr] at e; cases e), fun e he => by
    rw [hr] at he
    cases he
    exact ⟨(h.2 e hf).1, hr' (h.2 e hf).2⟩⟩
theorem CutPl.next {β : Type} {f f' : Except (Nat × Int) Nat} {r r' g' : R β} {i p : Nat} (h : CutPl f f' i p) {j : Nat} (hf : f = .ok j) (hg : CutAt r g' j p) (hr' : f' = .ok j → r' = g') : CutAt r r' i p :=
  ⟨fun y k e => by
    have h1 := h.1 j hf
    have h2 := hg.1 y k e
    refine ⟨by omega, fun hk => ?_⟩
    rw [hr' (h1.2 (by omega))]
    exact h2.2 hk, fun e he => by
    have h1 := h.1 j hf
    have h2 := hg.2 e he
    refine ⟨by omega, ?_⟩
    rw [hr' (h1.2 h2.1)]
    exact h2.2⟩

theorem tw_take {f : UInt8 → Bool} : ∀ (L : List UInt8) (n : Nat), ((L.take n).takeWhile f).length = min n (L.takeWhile f).length
  | [], n => by simp
  | a :: r, 0 => by simp
  | a :: r, n + 1 => by
    rw [List.take_succ_cons, List.takeWhile_cons, List.takeWhile_cons]
    split
    · rw [List.length_cons, List.length_cons, tw_take r n]; omega
    · simp
theorem blanks_cut {l : List UInt8} {i p : Nat} (h : blanks l i ≤ p) : blanks (l.take p) i = blanks l i := by
  unfold blanks at h ⊢
  rw [List.drop_take, tw_take]
  omega
theorem digitsEnd_cut {l : List UInt8} {i p : Nat} (h : digitsEnd l i ≤ p) : digitsEnd (l.take p) i = digitsEnd l i := by
  unfold digitsEnd at h ⊢
  rw [List.drop_take, tw_take]
  omega

theorem digits_cut (l : List UInt8) (p i : Nat) : CutPl (digits l i) (digits (l.take p) i) i p := by
  unfold digits
  by_cases h : 48 ≤ hd l i ∧ hd l i ≤ 57
  · rw [if_pos h]
    have hle : i ≤ digitsEnd l i := by unfold digitsEnd; omega
    refine ⟨fun j e => ?_, fun e he => by cases he⟩
    cases e
    refine ⟨hle, fun hp => ?_⟩
    rw [digitsEnd_cut hp]
    rcases Nat.lt_or_ge i p with hlt | hge
    · rw [hd_take hlt, if_pos h]
    · exfalso
      have : digitsEnd l i = i := by omega
      have hlen := hd_len (l := l) (k := i) (by omega)
      unfold digitsEnd at this
      rw [List.drop_eq_getElem_cons hlen, List.takeWhile_cons] at this
      have hd' : isDigit l[i] = true := by
        unfold hd at h
        rw [List.getD_eq_getElem?_getD, List.getElem?_eq_getElem hlen] at h
        simp only [Option.getD_some] at h
        unfold isDigit
        rw [Bool.and_eq_true, decide_eq_true_iff, decide_eq_true_iff]
        exact ⟨UInt8.le_iff_toNat_le.2 h.1, UInt8.le_iff_toNat_le.2 h.2⟩
      rw [if_pos hd'] at this
      simp at this
  · rw [if_neg h]
    refine ⟨(fun j e => by cases e), fun e he => ?_⟩
    cases he
    rw [if_neg (by rw [hd_cut (Nat.le_refl _)]; omega)]
    exact ⟨Nat.le_refl _, rfl⟩

/-- A place alone as a reading. -/
theorem CutPl.err' {f f' r r' : Except (Nat × Int) Nat} {i p : Nat} (h : CutPl f f' i p) {x : Nat × Int} (hf : f = .error x) (hr : r = .error x) (hr' : f' = .error (p, 30) → r' = .error (p, 30)) : CutPl r r' i p :=
  ⟨(fun k e => by rw [hr] at e; cases e), fun e he => by
    rw [hr] at he
    cases he
    exact ⟨(h.2 e hf).1, hr' (h.2 e hf).2⟩⟩
theorem CutPl.next' {f f' r r' g' : Except (Nat × Int) Nat} {i p : Nat} (h : CutPl f f' i p) {j : Nat} (hf : f = .ok j) (hg : CutPl r g' j p) (hr' : f' = .ok j → r' = g') : CutPl r r' i p :=
  ⟨fun k e => by
    have h1 := h.1 j hf
    have h2 := hg.1 k e
    refine ⟨by omega, fun hk => ?_⟩
    rw [hr' (h1.2 (by omega))]
    exact h2.2 hk, fun e he => by
    have h1 := h.1 j hf
    have h2 := hg.2 e he
    refine ⟨by omega, ?_⟩
    rw [hr' (h1.2 h2.1)]
    exact h2.2⟩

theorem hd_take_eq {l : List UInt8} {p k c : Nat} (h : hd l k = c) (hk : k < p) : hd (l.take p) k = c := by rw [hd_take hk]; exact h
theorem hd_take_ne {l : List UInt8} {p k c : Nat} (h : hd l k ≠ c) (hc : c ≠ 0) : hd (l.take p) k ≠ c := by
  rcases Nat.lt_or_ge k p with hk | hk
  · rw [hd_take hk]; exact h
  · rw [hd_cut hk]; exact fun e => hc e.symm
theorem CutPl.shift {f f' g : Except (Nat × Int) Nat} {i j p : Nat} (h : CutPl f f' j p) (hij : i ≤ j) (hg : j ≤ p → g = f') : CutPl f g i p :=
  ⟨fun k e => ⟨by have := (h.1 k e).1; omega, fun hk => by rw [hg (by have := (h.1 k e).1; omega)]; exact (h.1 k e).2 hk⟩, fun e he => ⟨by have := (h.2 e he).1; omega, by rw [hg (h.2 e he).1]; exact (h.2 e he).2⟩⟩
theorem numWhole_cut (l : List UInt8) (p i : Nat) : CutPl (numWhole l i) (numWhole (l.take p) i) i p := by
  unfold numWhole
  by_cases h : hd l i = 48
  · rw [if_pos h]
    refine ⟨fun j e => ?_, fun e he => by cases he⟩
    cases e
    exact ⟨by omega, fun hp => by rw [if_pos (hd_take_eq h (by omega))]⟩
  · rw [if_neg h, if_neg (hd_take_ne h (by decide))]
    exact digits_cut l p i
theorem numFrac_cut (l : List UInt8) (p i : Nat) : CutPl (numFrac l i) (numFrac (l.take p) i) i p := by
  unfold numFrac
  by_cases h : hd l i = 46
  · rw [if_pos h]
    exact (digits_cut l p (i + 1)).shift (by omega) (fun hp => by rw [if_pos (hd_take_eq h (by omega))])
  · rw [if_neg h, if_neg (hd_take_ne h (by decide))]
    exact CutPl.ok (Nat.le_refl _)
theorem numExp_cut (l : List UInt8) (p i : Nat) : CutPl (numExp l i) (numExp (l.take p) i) i p := by
  unfold numExp
  by_cases h : hd l i = 101 ∨ hd l i = 69
  · rw [if_pos h]
    by_cases h2 : hd l (i + 1) = 43 ∨ hd l (i + 1) = 45
    · rw [if_pos h2]
      refine (digits_cut l p (i + 2)).shift (by omega) (fun hp => ?_)
      rw [hd_take (by omega), hd_take (by omega), if_pos h, if_pos h2]
    · rw [if_neg h2]
      refine (digits_cut l p (i + 1)).shift (by omega) (fun hp => ?_)
      have h3 : ¬(hd (l.take p) (i + 1) = 43 ∨ hd (l.take p) (i + 1) = 45) := fun e => e.elim (hd_take_ne (fun e => h2 (.inl e)) (by decide)) (hd_take_ne (fun e => h2 (.inr e)) (by decide))
      rw [hd_take (by omega), if_pos h, if_neg h3]
  · have h3 : ¬(hd (l.take p) i = 101 ∨ hd (l.take p) i = 69) := fun e => e.elim (hd_take_ne (fun e => h (.inl e)) (by decide)) (hd_take_ne (fun e => h (.inr e)) (by decide))
    rw [if_neg h, if_neg h3]
    exact CutPl.ok (Nat.le_refl _)
theorem number_cut (l : List UInt8) (p i : Nat) : CutPl (number l i) (number (l.take p) i) i p := by
  unfold number
  have hm : i ≤ numMinus l i := by unfold numMinus; split <;> omega
  have hm' : numMinus l i ≤ p → numMinus (l.take p) i = numMinus l i := fun hp => by
    unfold numMinus at hp ⊢
    by_cases h : hd l i = 45
    · rw [if_pos h] at hp ⊢; rw [if_pos (hd_take_eq h (by omega))]
    · rw [if_neg h, if_neg (hd_take_ne h (by decide))]
  refine CutPl.shift (j := numMinus l i) (f' := match numWhole (l.take p) (numMinus l i) with
    | .error e => .error e
    | .ok j => match numFrac (l.take p) j with
      | .error e => .error e
      | .ok k => numExp (l.take p) k) ?_ hm (fun hp => by rw [hm' hp]; rfl)
  have hw := numWhole_cut l p (numMinus l i)
  rcases h1 : numWhole l (numMinus l i) with e | j
  · exact hw.err' h1 rfl (fun e => by rw [e])
  refine hw.next' h1 (g' := match numFrac (l.take p) j with
      | .error e => .error e
      | .ok k => numExp (l.take p) k) ?_ (fun e => by rw [e])
  have hf := numFrac_cut l p j
  rcases h2 : numFrac l j with e | k
  · exact hf.err' h2 (by simp only [h2]) (fun e => by rw [e])
  exact hf.next' h2 (g' := numExp (l.take p) k) (by simp only [h2]; exact numExp_cut l p k) (fun e => by rw [e])
end Js
end Go.Proofs.YtgnobnbbjekgnaaDoor
