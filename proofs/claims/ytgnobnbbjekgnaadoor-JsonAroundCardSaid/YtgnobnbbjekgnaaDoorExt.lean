import Derived.Test.YtgnobnbbjekgnaaDoorSft
/- Plain Lean: what is read of a text's beginning is read of the whole text, if what comes next doesn't go on with a number. -/
namespace Go.Proofs.YtgnobnbbjekgnaaDoor
set_option linter.unusedVariables false
namespace Js

/-- What comes next doesn't go on with a number. -/
def Halts (c : Nat) : Prop := ¬(48 ≤ c ∧ c ≤ 57) ∧ c ≠ 46 ∧ c ≠ 101 ∧ c ≠ 69
theorem hd_back {l : List UInt8} {p k c : Nat} (h : hd (l.take p) k = c) (hc : 0 < c) : hd l k = c ∧ k < p := by
  rcases Nat.lt_or_ge k p with hk | hk
  · rw [hd_take hk] at h; exact ⟨h, hk⟩
  · rw [hd_cut hk] at h; omega
/-- f': of the beginning; f: of the whole. -/
def ExtAt {α : Type} (f' f : R α) : Prop := (∀ x j, f' = .ok (x, j) → f = .ok (x, j)) ∧ (∀ q, f' = .error (q, 31) → f = .error (q, 31))
def ExtPl (f' f : Except (Nat × Int) Nat) : Prop := (∀ j, f' = .ok j → f = .ok j) ∧ (∀ q, f' ≠ .error (q, 31))
theorem ExtAt.e30 {α : Type} {f : R α} (q : Nat) : ExtAt (.error (q, 30)) f := ⟨(fun x j h => by cases h), (fun q h => by cases h)⟩
theorem ExtPl.e30 {f : Except (Nat × Int) Nat} (q : Nat) : ExtPl (.error (q, 30)) f := ⟨(fun j h => by cases h), (fun q h => by cases h)⟩
theorem ExtAt.rf {α : Type} {f' f : R α} (h : f = f') : ExtAt f' f := by subst h; exact ⟨fun _ _ h => h, fun _ h => h⟩
theorem ExtAt.next {α β : Type} {f' f : R α} {r' r g : R β} {x : α} {j : Nat} (h : ExtAt f' f) (hf : f' = .ok (x, j)) (hg : ExtAt r' g) (hr : f = .ok (x, j) → r = g) : ExtAt r' r := by
  rw [hr (h.1 x j hf)]; exact hg
theorem ExtAt.err {α β : Type} {f' f : R α} {r' r : R β} {e : Nat × Int} (h : ExtAt f' f) (hf : f' = .error e) (hr' : r' = .error e) (hr : f = .error e → r = .error e) : ExtAt r' r :=
  ⟨(fun x j hx => by rw [hr'] at hx; cases hx), fun q hq => by
    rw [hr'] at hq
    cases hq
    exact hr (h.2 q hf)⟩
theorem ExtPl.next {β : Type} {f' f : Except (Nat × Int) Nat} {r' r g : R β} {j : Nat} (h : ExtPl f' f) (hf : f' = .ok j) (hg : ExtAt r' g) (hr : f = .ok j → r = g) : ExtAt r' r := by
  rw [hr (h.1 j hf)]; exact hg
theorem ExtPl.err {β : Type} {f' f : Except (Nat × Int) Nat} {r' r : R β} {e : Nat × Int} (h : ExtPl f' f) (hf : f' = .error e) (hr' : r' = .error e) : ExtAt r' r :=
  ⟨(fun x j hx => by rw [hr'] at hx; cases hx), fun q hq => by
    rw [hr'] at hq
    cases hq
    exact absurd hf (h.2 q)⟩

section
variable (l : List UInt8) (p : Nat)
theorem word_ext : ∀ (W : List Nat) (i : Nat), (∀ c ∈ W, 0 < c) → ExtPl (word (l.take p) W i) (word l W i)
  | [], i, _ => ⟨fun j h => h, (fun q h => by cases h)⟩
  | c :: W, i, hc => by
    simp only [word]
    by_cases h : hd (l.take p) i = c
    · rw [if_pos h, if_pos (hd_back h (hc c (by simp))).1]
      exact word_ext W (i + 1) (fun c h => hc c (by simp [h]))
    · rw [if_neg h]; exact ExtPl.e30 _
theorem tw_get {f : UInt8 → Bool} : ∀ (L : List UInt8) (n : Nat), n < (L.takeWhile f).length → ∃ c, L[n]? = some c ∧ f c = true
  | [], n, h => by simp at h
  | a :: r, n, h => by
    rw [List.takeWhile_cons] at h
    split at h
    · rename_i ha
      cases n with
      | zero => exact ⟨a, rfl, ha⟩
      | succ n => exact tw_get r n (by simpa using h)
    · simp at h
theorem isDigit_hd {l : List UInt8} {i : Nat} {c : UInt8} (h : l[i]? = some c) (hd' : isDigit c = true) : 48 ≤ hd l i ∧ hd l i ≤ 57 := by
  unfold hd
  rw [List.getD_eq_getElem?_getD, h]
  unfold isDigit at hd'
  rw [Bool.and_eq_true, decide_eq_true_iff, decide_eq_true_iff] at hd'
  exact ⟨UInt8.le_iff_toNat_le.1 hd'.1, UInt8.le_iff_toNat_le.1 hd'.2⟩
variable {l p}
theorem digitsEnd_ext (hh : Halts (hd l p)) {i : Nat} (hi : i ≤ p) : digitsEnd (l.take p) i = digitsEnd l i := by
  unfold digitsEnd
  rw [List.drop_take, tw_take]
  rcases Nat.lt_or_ge (p - i) ((l.drop i).takeWhile isDigit).length with h | h
  · exfalso
    obtain ⟨c, hc, hd'⟩ := tw_get _ _ h
    rw [List.getElem?_drop, show i + (p - i) = p by omega] at hc
    exact hh.1 (isDigit_hd hc hd')
  · omega
theorem digits_ext (hh : Halts (hd l p)) (i : Nat) : ExtPl (digits (l.take p) i) (digits l i) := by
  unfold digits
  by_cases h : 48 ≤ hd (l.take p) i ∧ hd (l.take p) i ≤ 57
  · obtain ⟨h1, h2⟩ := hd_back (rfl : hd (l.take p) i = _) (by omega)
    rw [if_pos h, if_pos (by rw [h1]; exact h), digitsEnd_ext hh (by omega)]
    exact ⟨fun j h => h, (fun q h => by cases h)⟩
  · rw [if_neg h]; exact ExtPl.e30 _
theorem digits_le {l : List UInt8} {i j : Nat} (h : digits l i = .ok j) : j ≤ l.length := by
  unfold digits at h
  split at h
  · rename_i h2
    cases h
    have hlen := hd_len (l := l) (k := i) (by omega)
    have := tw_le isDigit (l.drop i)
    rw [List.length_drop] at this
    unfold digitsEnd
    omega
  · cases h
theorem number_ext (hh : Halts (hd l p)) (i : Nat) : ExtPl (number (l.take p) i) (number l i) := by
  have nxt : ∀ {f' f r' r : Except (Nat × Int) Nat}, ExtPl f' f → (∀ j, f' = .ok j → f = .ok j → ExtPl r' r) → (∀ e, f' = .error e → r' = .error e) → ExtPl r' r := fun {f' f r' r} h1 h2 h3 => by
    rcases hf : f' with e | j
    · rw [h3 e hf]
      exact ⟨(fun j h => by cases h), fun q h => by cases h; exact h1.2 q hf⟩
    · exact h2 j hf (h1.1 j hf)
  have hw : ∀ i, ExtPl (numWhole (l.take p) i) (numWhole l i) := fun i => by
    unfold numWhole
    by_cases h : hd (l.take p) i = 48
    · rw [if_pos h, if_pos (hd_back h (by omega)).1]
      exact ⟨fun j h => h, (fun q h => by cases h)⟩
    · rw [if_neg h]
      by_cases h2 : hd l i = 48
      · rcases Nat.lt_or_ge i p with hip | hip
        · rw [hd_take hip] at h; exact absurd h2 h
        · have : hd (l.take p) i = 0 := hd_cut hip
          unfold digits
          rw [if_neg (by omega)]
          exact ExtPl.e30 _
      · rw [if_neg h2]; exact digits_ext hh i
  have hf : ∀ i, i ≤ p → ExtPl (numFrac (l.take p) i) (numFrac l i) := fun i hi => by
    unfold numFrac
    by_cases h : hd (l.take p) i = 46
    · rw [if_pos h, if_pos (hd_back h (by omega)).1]; exact digits_ext hh _
    · rw [if_neg h, if_neg (by
        rcases Nat.lt_or_ge i p with hip | hip
        · rw [hd_take hip] at h; exact h
        · obtain rfl : i = p := by omega
          exact hh.2.1)]
      exact ⟨fun j h => h, (fun q h => by cases h)⟩
  have he : ∀ i, i ≤ p → ExtPl (numExp (l.take p) i) (numExp l i) := fun i hi => by
    unfold numExp
    by_cases h : hd (l.take p) i = 101 ∨ hd (l.take p) i = 69
    · have hip : i < p := by
        rcases h with h | h
        · exact (hd_back h (by omega)).2
        · exact (hd_back h (by omega)).2
      have h' : hd l i = 101 ∨ hd l i = 69 := by rw [hd_take hip] at h; exact h
      rw [if_pos h, if_pos h']
      by_cases h2 : hd (l.take p) (i + 1) = 43 ∨ hd (l.take p) (i + 1) = 45
      · have h3 : hd l (i + 1) = 43 ∨ hd l (i + 1) = 45 := h2.imp (fun h => (hd_back h (by omega)).1) (fun h => (hd_back h (by omega)).1)
        rw [if_pos h2, if_pos h3]
        exact digits_ext hh _
      · rw [if_neg h2]
        rcases Nat.lt_or_ge (i + 1) p with hip2 | hip2
        · rw [hd_take hip2] at h2
          rw [if_neg h2]; exact digits_ext hh _
        · have : hd (l.take p) (i + 1) = 0 := hd_cut hip2
          have : digits (l.take p) (i + 1) = .error (i + 1, 30) := by unfold digits; rw [if_neg (by omega)]
          rw [this]; exact ExtPl.e30 _
    · rw [if_neg h, if_neg (by
        rcases Nat.lt_or_ge i p with hip | hip
        · rw [hd_take hip] at h; exact h
        · obtain rfl : i = p := by omega
          exact fun e => e.elim hh.2.2.1 hh.2.2.2)]
      exact ⟨fun j h => h, (fun q h => by cases h)⟩
  have hlp : (l.take p).length ≤ p := by rw [List.length_take]; omega
  unfold number
  have hm : ∀ e, numWhole (l.take p) (numMinus (l.take p) i) = .ok e → numMinus (l.take p) i = numMinus l i := fun e h => by
    unfold numMinus
    by_cases h2 : hd (l.take p) i = 45
    · rw [if_pos h2, if_pos (hd_back h2 (by omega)).1]
    · rw [if_neg h2]
      rcases Nat.lt_or_ge i p with hip | hip
      · rw [hd_take hip] at h2; rw [if_neg h2]
      · exfalso
        have h0 : hd (l.take p) i = 0 := hd_cut hip
        have : numMinus (l.take p) i = i := by unfold numMinus; rw [if_neg h2]
        rw [this] at h
        unfold numWhole digits at h
        rw [if_neg (by omega), if_neg (by omega)] at h
        cases h
  rcases hx : numWhole (l.take p) (numMinus (l.take p) i) with e | j
  · simp only
    have := (hw (numMinus (l.take p) i)).2
    rw [hx] at this
    exact ⟨(fun j h => by cases h), fun q h => this q h⟩
  · have hmm := hm j hx
    have hj : j ≤ p := by
      unfold numWhole at hx
      split at hx
      · rename_i h
        cases hx
        have := (hd_back h (by omega)).2
        omega
      · have := digits_le hx; omega
    rw [← hmm, (hw _).1 j hx]
    simp only
    refine nxt (hf j hj) (fun k hk hk' => ?_) (fun e h => by rw [h])
    have hkp : k ≤ p := by
      unfold numFrac at hk
      split at hk
      · have := digits_le hk; omega
      · cases hk; exact hj
    rw [hk, hk']
    exact he k hkp
theorem hexes_ext : ∀ (k n i : Nat), ExtAt (hexes (l.take p) k n i) (hexes l k n i)
  | 0, n, i => ExtAt.rf rfl
  | k + 1, n, i => by
    simp only [hexes]
    rcases h : hex (hd (l.take p) i) with _ | d
    · exact ExtAt.e30 _
    · have hpos : 0 < hd (l.take p) i := by
        rcases Nat.eq_zero_or_pos (hd (l.take p) i) with h0 | h0
        · rw [h0] at h; cases h
        · exact h0
      rw [(hd_back rfl hpos).1, h]
      exact hexes_ext k _ (i + 1)
theorem hexes_pos : ∀ {k n i m j : Nat}, hexes l k n i = .ok (m, j) → ∀ q, i ≤ q → q < i + k → 0 < hd l q
  | 0, n, i, m, j, h, q, h1, h2 => by omega
  | k + 1, n, i, m, j, h, q, h1, h2 => by
    simp only [hexes] at h
    rcases he : hex (hd l i) with _ | d
    · rw [he] at h; cases h
    · rw [he] at h
      rcases Nat.eq_or_lt_of_le h1 with h3 | h3
      · subst h3
        rcases Nat.eq_zero_or_pos (hd l i) with h0 | h0
        · rw [h0] at he; cases he
        · exact h0
      · exact hexes_pos h q (by omega) (by omega)
theorem hexes_no31 : ∀ {k n i q : Nat}, hexes l k n i ≠ .error (q, 31)
  | 0, n, i, q, h => by cases h
  | k + 1, n, i, q, h => by
    simp only [hexes] at h
    rcases he : hex (hd l i) with _ | d
    · rw [he] at h; cases h
    · rw [he] at h; exact hexes_no31 h
theorem unit_ext (i : Nat) : ExtAt (unit (l.take p) i) (unit l i) := by
  unfold unit
  by_cases h : hd (l.take p) i = 117
  · rw [if_pos h, if_pos (hd_back h (by omega)).1]; exact hexes_ext 4 0 (i + 1)
  · rw [if_neg h]; exact ExtAt.e30 _
theorem unit_no31 {i q : Nat} : unit l i ≠ .error (q, 31) := by
  unfold unit
  split
  · exact hexes_no31
  · intro h; cases h
theorem escape_no31 {i q : Nat} : escape l i ≠ .error (q, 31) := by
  unfold escape
  rcases esc1 (hd l i) with _ | c
  · simp only
    rcases hx : unit l i with e | ⟨u, j⟩
    · intro h; cases h; exact unit_no31 hx
    simp only
    split
    · split
      · rcases hy : unit l (j + 1) with e | ⟨w, k⟩
        · intro h; cases h; exact unit_no31 hy
        · intro h; cases h
      · intro h; cases h
    · intro h; cases h
  · intro h; cases h
theorem text_no31 : ∀ {n i q : Nat} {out : List UInt8}, text l n i out ≠ .error (q, 31)
  | 0, i, q, out, h => by cases h
  | n + 1, i, q, out, h => by
    simp only [text] at h
    split at h
    · cases h
    split at h
    · cases h
    split at h
    · rcases hx : escape l (i + 1) with e | ⟨u, j⟩
      · rw [hx] at h; cases h; exact escape_no31 hx
      · rw [hx] at h; exact text_no31 h
    split at h
    · exact text_no31 h
    · cases h
/-- An escape that is read otherwise of the whole: then the text isn't one. -/
theorem escape_ext {i u j : Nat} (h : escape (l.take p) i = .ok (u, j)) : escape l i = .ok (u, j) ∨ ∀ n out, ∃ q e, text (l.take p) n j out = .error (q, e) := by
  unfold escape at h ⊢
  rcases h1 : esc1 (hd (l.take p) i) with _ | c
  · rw [h1] at h
    simp only at h
    rcases hx : unit (l.take p) i with e | ⟨v, k⟩
    · rw [hx] at h; cases h
    rw [hx] at h
    simp only at h
    have hu := (unit_ext i).1 v k hx
    have hpos : 0 < hd (l.take p) i := by
      unfold unit at hx
      split at hx
      · omega
      · cases hx
    rw [(hd_back rfl hpos).1, h1]
    simp only
    rw [hu]
    simp only
    by_cases hs : 55296 ≤ v ∧ v < 57344
    · rw [if_pos hs] at h ⊢
      by_cases hp : pair (l.take p) k v = true
      · rw [if_pos hp] at h
        obtain ⟨w, hw, hl⟩ := pair_unit hp
        have hl2 : k + 6 ≤ p := by rw [List.length_take] at hl; omega
        rw [pair_cut hl2] at hp
        rw [hw] at h
        rw [if_pos hp, (unit_ext _).1 _ _ hw]
        exact .inl h
      · rw [if_neg hp] at h
        by_cases hp2 : pair l k v = true
        · right
          obtain rfl : k = j := by cases h; rfl
          have hkp : p < k + 6 := by
            rcases Nat.lt_or_ge p (k + 6) with h' | h'
            · exact h'
            · rw [pair_cut h'] at hp; exact absurd hp2 hp
          intro n out
          cases n with
          | zero => exact ⟨_, _, rfl⟩
          | succ n =>
            simp only [text]
            have h92 : hd l k = 92 := by
              unfold pair at hp2
              split at hp2
              · cases hp2
              split at hp2
              · rename_i h; exact h.1
              · cases hp2
            rcases Nat.lt_or_ge k p with hk | hk
            · rw [hd_take hk, h92, if_neg (by decide), if_neg (by decide), if_pos rfl]
              have : ∃ e, escape (l.take p) (k + 1) = .error e := by
                unfold escape
                rcases Nat.lt_or_ge (k + 1) p with hk1 | hk1
                · have h117 : hd l (k + 1) = 117 := by
                    unfold pair at hp2
                    split at hp2
                    · cases hp2
                    split at hp2
                    · rename_i h; exact h.2
                    · cases hp2
                  rw [hd_take hk1, h117]
                  simp only [show esc1 117 = none from rfl]
                  rcases hy : unit (l.take p) (k + 1) with e | ⟨a, b⟩
                  · exact ⟨e, rfl⟩
                  · exfalso
                    unfold unit at hy
                    rw [hd_take hk1, if_pos h117] at hy
                    have := hexes_pos hy (k + 5) (by omega) (by omega)
                    rw [hd_cut (by omega)] at this
                    omega
                · have h0 : hd (l.take p) (k + 1) = 0 := hd_cut hk1
                  rw [h0]
                  simp only [show esc1 0 = none from rfl]
                  have : unit (l.take p) (k + 1) = .error (k + 1, 30) := by unfold unit; rw [if_neg (by omega)]
                  rw [this]
                  exact ⟨_, rfl⟩
              obtain ⟨e, he⟩ := this
              rw [he]
              exact ⟨e.1, e.2, rfl⟩
            · rw [hd_cut hk, if_neg (by decide), if_pos (by decide)]
              exact ⟨_, _, rfl⟩
        · rw [if_neg hp2]
          exact .inl h
    · rw [if_neg hs] at h ⊢
      exact .inl h
  · rw [h1] at h
    have hpos : 0 < hd (l.take p) i := by
      rcases Nat.eq_zero_or_pos (hd (l.take p) i) with h0 | h0
      · rw [h0] at h1; cases h1
      · exact h0
    rw [(hd_back rfl hpos).1, h1]
    exact .inl h
theorem decodeN_ext {n q b0 b1 b2 b3 c1 c2 c3 : Nat} (h1 : 1 < q → c1 = b1) (h2 : 2 < q → c2 = b2) (h3 : 3 < q → c3 = b3) (hbad : Lib.decodeN (min q n) b0 c1 c2 c3 ≠ (65533, 1)) :
    Lib.decodeN n b0 b1 b2 b3 = Lib.decodeN (min q n) b0 c1 c2 c3 := by
  unfold Lib.decodeN at hbad ⊢
  by_cases k0 : b0 < 128
  · rw [if_pos k0, if_pos k0]
  rw [if_neg k0] at hbad ⊢
  rw [if_neg k0]
  by_cases k1 : b0 / 32 = 6 ∧ (1 < min q n ∧ c1 / 64 = 2)
  · have e1 := h1 (by omega)
    subst e1
    rw [if_pos k1, if_pos ⟨k1.1, by omega, k1.2.2⟩]
  rw [if_neg k1] at hbad ⊢
  by_cases k2 : b0 / 16 = 14 ∧ (1 < min q n ∧ c1 / 64 = 2) ∧ (2 < min q n ∧ c2 / 64 = 2)
  · have e1 := h1 (by omega)
    have e2 := h2 (by omega)
    subst e1 e2
    rw [if_pos k2, if_neg (by omega), if_pos ⟨k2.1, ⟨by omega, k2.2.1.2⟩, by omega, k2.2.2.2⟩]
  rw [if_neg k2] at hbad ⊢
  by_cases k3 : b0 / 8 = 30 ∧ (1 < min q n ∧ c1 / 64 = 2) ∧ (2 < min q n ∧ c2 / 64 = 2) ∧ (3 < min q n ∧ c3 / 64 = 2)
  · have e1 := h1 (by omega)
    have e2 := h2 (by omega)
    have e3 := h3 (by omega)
    subst e1 e2 e3
    rw [if_pos k3, if_neg (by omega), if_neg (by omega), if_pos ⟨k3.1, ⟨by omega, k3.2.1.2⟩, ⟨by omega, k3.2.2.1.2⟩, by omega, k3.2.2.2.2⟩]
  rw [if_neg k3] at hbad
  exact absurd rfl hbad
theorem dec_ext {i : Nat} (h : whole (l.take p) i = true) : whole l i = true ∧ dec l i = dec (l.take p) i ∧ i < p := by
  obtain ⟨h1, h2⟩ := whole_iff.1 h
  rw [List.length_take] at h1
  have e : (l.take p).length - i = min (p - i) (l.length - i) := by rw [List.length_take]; omega
  have hd1 : dec l i = dec (l.take p) i := by
    unfold dec at h2 ⊢
    rw [e, hd_take (show i < p by omega)] at h2 ⊢
    exact decodeN_ext (fun h => hd_take (by omega)) (fun h => hd_take (by omega)) (fun h => hd_take (by omega)) h2
  exact ⟨whole_iff.2 ⟨by omega, by rw [hd1]; exact h2⟩, hd1, by omega⟩
theorem text_ext : ∀ (n' n i : Nat) (out : List UInt8), 0 < n → l.length < n + i → ExtAt (text (l.take p) n' i out) (text l n i out)
  | 0, n, i, out, _, _ => ⟨(fun x j h => by cases h), (fun q h => by cases h)⟩
  | n' + 1, 0, i, out, h, _ => by omega
  | n' + 1, n + 1, i, out, _, hn => by
    refine ⟨fun x j h => ?_, fun q h => absurd h text_no31⟩
    simp only [text] at h ⊢
    by_cases h34 : hd (l.take p) i = 34
    · rw [if_pos h34] at h
      rw [if_pos (hd_back h34 (by omega)).1]; exact h
    rw [if_neg h34] at h
    by_cases h32 : hd (l.take p) i < 32
    · rw [if_pos h32] at h; cases h
    rw [if_neg h32] at h
    obtain ⟨e0, hip⟩ := hd_back (rfl : hd (l.take p) i = _) (by omega)
    have hlen := hd_len (l := l) (k := i) (by omega)
    rw [← e0] at h34 h32 h
    rw [if_neg h34, if_neg h32]
    by_cases h92 : hd l i = 92
    · rw [if_pos h92] at h ⊢
      rcases hx : escape (l.take p) (i + 1) with e | ⟨u, k⟩
      · rw [hx] at h; cases h
      rw [hx] at h
      simp only at h
      rcases escape_ext hx with he | he
      · rw [he]
        have := escape_lt hx
        exact (text_ext n' n k _ (by omega) (by omega)).1 x j h
      · obtain ⟨q, e, hq⟩ := he n' (out ++ Lib.encodeRune u)
        rw [hq] at h; cases h
    · rw [if_neg h92] at h ⊢
      rcases hw : whole (l.take p) i with _ | _
      · rw [hw] at h; cases h
      · rw [hw, if_pos rfl] at h
        obtain ⟨w1, w2, w3⟩ := dec_ext hw
        have h0 : 1 ≤ (dec l i).2 := decodeN_pos _ _ _ _ _
        rw [w1, if_pos rfl]
        have e2 : ((l.take p).drop i).take (dec (l.take p) i).2 = (l.drop i).take (dec (l.take p) i).2 := by
          have hb := dec_bd hw
          rw [List.length_take] at hb
          rw [List.drop_take, List.take_take, Nat.min_eq_left (by omega)]
        rw [e2, ← w2] at h
        exact (text_ext n' n (i + (dec l i).2) _ (by omega) (by omega)).1 x j h
theorem str_ext (i : Nat) : ExtAt (str (l.take p) i) (str l i) := text_ext _ _ (i + 1) [] (by omega) (by omega)
end
theorem blanks_ext {l : List UInt8} {p k : Nat} (h : blanks (l.take p) k < p) : blanks l k = blanks (l.take p) k := by
  unfold blanks at h ⊢
  rw [List.drop_take, tw_take] at h ⊢
  omega
end Js
end Go.Proofs.YtgnobnbbjekgnaaDoor
