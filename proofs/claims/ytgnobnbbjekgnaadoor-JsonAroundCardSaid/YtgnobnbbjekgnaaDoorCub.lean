import Derived.Test.YtgnobnbbjekgnaaDoorCua
/- Plain Lean: a text cut off at the place where its reading stops: lists, objects, values, texts. -/
namespace Go.Proofs.YtgnobnbbjekgnaaDoor
set_option linter.unusedVariables false
namespace Js

/-! ### Where a reading ends, and its errors -/
/-- It ends within the text, or stops there for one of two reasons. -/
def Bd (l : List UInt8) (i : Nat) {α : Type} : R α → Prop
  | .ok (_, j) => i ≤ j ∧ j ≤ l.length
  | .error (q, e) => i ≤ q ∧ q ≤ l.length ∧ (e = 30 ∨ e = 31)
def BdP (l : List UInt8) (i : Nat) : Except (Nat × Int) Nat → Prop
  | .ok j => i ≤ j ∧ j ≤ l.length
  | .error (q, e) => i ≤ q ∧ q ≤ l.length ∧ (e = 30 ∨ e = 31)
theorem Bd.weak {l : List UInt8} {i j : Nat} {α : Type} {r : R α} (h : Bd l j r) (hij : i ≤ j) : Bd l i r := by
  rcases r with ⟨q, e⟩ | ⟨x, k⟩
  · exact ⟨by have := h.1; omega, h.2⟩
  · exact ⟨by have := h.1; omega, h.2⟩
theorem BdP.weak {l : List UInt8} {i j : Nat} {r : Except (Nat × Int) Nat} (h : BdP l j r) (hij : i ≤ j) : BdP l i r := by
  rcases r with ⟨q, e⟩ | k
  · exact ⟨by have := h.1; omega, h.2⟩
  · exact ⟨by have := h.1; omega, h.2⟩
theorem tw_le (f : UInt8 → Bool) (L : List UInt8) : (L.takeWhile f).length ≤ L.length := (List.takeWhile_sublist f).length_le
theorem blanks_bd {l : List UInt8} {i : Nat} (hi : i ≤ l.length) : i ≤ blanks l i ∧ blanks l i ≤ l.length := by
  unfold blanks
  have := tw_le isBlank (l.drop i)
  rw [List.length_drop] at this
  omega
theorem word_bd {l : List UInt8} : ∀ {W : List Nat} {i : Nat}, (∀ c ∈ W, 0 < c) → i ≤ l.length → BdP l i (word l W i)
  | [], i, _, hi => ⟨Nat.le_refl _, hi⟩
  | c :: W, i, hc, hi => by
    simp only [word]
    split
    · rename_i he
      have := hd_len (l := l) (k := i) (by rw [he]; exact hc c (by simp))
      exact (word_bd (W := W) (i := i + 1) (fun c h => hc c (by simp [h])) (by omega)).weak (by omega)
    · exact ⟨Nat.le_refl _, hi, .inl rfl⟩
theorem digits_bd {l : List UInt8} {i : Nat} (hi : i ≤ l.length) : BdP l i (digits l i) := by
  unfold digits
  split
  · have := tw_le isDigit (l.drop i)
    rw [List.length_drop] at this
    exact ⟨by unfold digitsEnd; omega, by unfold digitsEnd; omega⟩
  · exact ⟨Nat.le_refl _, hi, .inl rfl⟩
theorem number_bd {l : List UInt8} {i : Nat} (hi : i ≤ l.length) : BdP l i (number l i) := by
  unfold number
  have hm : i ≤ numMinus l i ∧ numMinus l i ≤ l.length := by
    unfold numMinus
    split
    · have := hd_len (l := l) (k := i) (by omega); omega
    · omega
  have h1 : BdP l (numMinus l i) (numWhole l (numMinus l i)) := by
    unfold numWhole
    split
    · have := hd_len (l := l) (k := numMinus l i) (by omega); exact ⟨by omega, by omega⟩
    · exact digits_bd hm.2
  generalize numMinus l i = m at *
  rcases hx : numWhole l m with ⟨q, e⟩ | j
  · rw [hx] at h1; exact h1.weak hm.1
  rw [hx] at h1
  have hj : m ≤ j ∧ j ≤ l.length := h1
  have h2 : BdP l j (numFrac l j) := by
    unfold numFrac
    split
    · have := hd_len (l := l) (k := j) (by omega)
      exact (digits_bd (by omega)).weak (by omega)
    · exact ⟨by omega, by omega⟩
  simp only
  rcases hy : numFrac l j with ⟨q, e⟩ | k
  · rw [hy] at h2; exact h2.weak (by omega)
  rw [hy] at h2
  have hk : j ≤ k ∧ k ≤ l.length := h2
  simp only
  unfold numExp
  split
  · have := hd_len (l := l) (k := k) (by omega)
    split
    · have := hd_len (l := l) (k := k + 1) (by omega)
      exact (digits_bd (by omega)).weak (by omega)
    · exact (digits_bd (by omega)).weak (by omega)
  · exact ⟨by omega, by omega⟩
theorem hexes_bd {l : List UInt8} : ∀ {k n i : Nat}, i ≤ l.length → Bd l i (hexes l k n i)
  | 0, n, i, hi => ⟨Nat.le_refl _, hi⟩
  | k + 1, n, i, hi => by
    simp only [hexes]
    rcases h : hex (hd l i) with _ | d
    · exact ⟨Nat.le_refl _, hi, .inl rfl⟩
    · have : i < l.length := by
        rcases Nat.lt_or_ge i l.length with h' | h'
        · exact h'
        · have h0 : hd l i = 0 := by unfold hd; rw [List.getD_eq_getElem?_getD, List.getElem?_eq_none h']; rfl
          rw [h0] at h; cases h
      exact (hexes_bd (by omega)).weak (by omega)
theorem unit_bd {l : List UInt8} {i : Nat} (hi : i ≤ l.length) : Bd l i (unit l i) := by
  unfold unit
  split
  · have := hd_len (l := l) (k := i) (by omega)
    exact (hexes_bd (by omega)).weak (by omega)
  · exact ⟨Nat.le_refl _, hi, .inl rfl⟩
theorem esc1_len {l : List UInt8} {i c : Nat} (h : esc1 (hd l i) = some c) : i < l.length := by
  rcases Nat.lt_or_ge i l.length with h' | h'
  · exact h'
  · have h0 : hd l i = 0 := by unfold hd; rw [List.getD_eq_getElem?_getD, List.getElem?_eq_none h']; rfl
    rw [h0] at h; cases h
theorem escape_bd {l : List UInt8} {i : Nat} (hi : i ≤ l.length) : Bd l i (escape l i) := by
  unfold escape
  rcases h : esc1 (hd l i) with _ | c
  · simp only
    have h1 := unit_bd hi
    rcases hx : unit l i with ⟨q, e⟩ | ⟨u, j⟩
    · rw [hx] at h1; exact h1
    rw [hx] at h1
    have hj : i ≤ j ∧ j ≤ l.length := h1
    simp only
    split
    · split
      · rename_i hp
        obtain ⟨w, hw, hl⟩ := pair_unit hp
        rw [hw]
        exact ⟨by omega, hl⟩
      · exact hj
    · exact hj
  · have := esc1_len h
    exact ⟨by omega, by omega⟩
theorem dec_bd {l : List UInt8} {i : Nat} (h : whole l i = true) : i + (dec l i).2 ≤ l.length := by
  obtain ⟨h1, h2⟩ := whole_iff.1 h
  unfold dec at h2 ⊢
  have : (Lib.decodeN (l.length - i) (hd l i) (hd l (i + 1)) (hd l (i + 2)) (hd l (i + 3))).2 ≤ l.length - i := by
    unfold Lib.decodeN
    repeat' split
    all_goals (simp only; omega)
  omega
theorem text_bd {l : List UInt8} : ∀ {n i : Nat} {out : List UInt8}, 0 < n → l.length < n + i → i ≤ l.length → Bd l i (text l n i out)
  | 0, i, out, h, _, _ => by omega
  | n + 1, i, out, _, hn, hi => by
    simp only [text]
    split
    · have := hd_len (l := l) (k := i) (by omega)
      exact ⟨by omega, by omega⟩
    split
    · exact ⟨Nat.le_refl _, hi, .inl rfl⟩
    have := hd_len (l := l) (k := i) (by omega)
    split
    · have h1 := escape_bd (l := l) (i := i + 1) (by omega)
      rcases hx : escape l (i + 1) with ⟨q, e⟩ | ⟨u, j⟩
      · rw [hx] at h1; exact h1.weak (by omega)
      · rw [hx] at h1
        have hj : i + 1 ≤ j ∧ j ≤ l.length := h1
        exact (text_bd (by omega) (by omega) hj.2).weak (by omega)
    split
    · rename_i hw
      have h1 := dec_bd hw
      have h0 : 1 ≤ (dec l i).2 := decodeN_pos _ _ _ _ _
      exact (text_bd (by omega) (by omega) h1).weak (by omega)
    · exact ⟨Nat.le_refl _, hi, .inl rfl⟩
theorem str_bd {l : List UInt8} {i : Nat} (hi : i < l.length) : Bd l (i + 1) (str l i) := text_bd (by omega) (by omega) (by omega)
theorem comma_bd {l : List UInt8} {first : Bool} {i : Nat} (hi : i ≤ l.length) : BdP l i (comma l first i) := by
  unfold comma
  split
  · exact ⟨Nat.le_refl _, hi⟩
  · have h1 := word_bd (W := [44]) (by simp) hi
    rcases hx : word l [44] i with ⟨q, e⟩ | j
    · rw [hx] at h1; exact h1
    · rw [hx] at h1
      have hj : i ≤ j ∧ j ≤ l.length := h1
      have := blanks_bd hj.2
      exact ⟨by omega, by omega⟩
/-- A reading of values as it is wanted. -/
def ValBd (l : List UInt8) (val : Nat → R JV) : Prop := (∀ i, i ≤ l.length → Bd l i (val i)) ∧ (∀ i v j, val i = .ok (v, j) → i < j ∧ i < l.length)
theorem listL_bd {l : List UInt8} {val : Nat → R JV} (hv : ValBd l val) : ∀ {n i : Nat} {acc : List JV}, 0 < n → l.length < n + i → i ≤ l.length → Bd l i (listL l val n i acc)
  | 0, i, acc, h, _, _ => by omega
  | n + 1, i, acc, _, hn, hi => by
    simp only [listL]
    split
    · have := hd_len (l := l) (k := i) (by omega)
      exact ⟨by omega, by omega⟩
    have h1 := comma_bd (first := acc.isEmpty) hi
    rcases hx : comma l acc.isEmpty i with ⟨q, e⟩ | j
    · rw [hx] at h1; exact h1
    rw [hx] at h1
    have hj : i ≤ j ∧ j ≤ l.length := h1
    simp only
    have h2 := hv.1 j hj.2
    rcases hy : val j with ⟨q, e⟩ | ⟨v, k⟩
    · rw [hy] at h2; exact h2.weak (by omega)
    rw [hy] at h2
    have hk : j ≤ k ∧ k ≤ l.length := h2
    have h3 := hv.2 j v k hy
    have h4 := blanks_bd hk.2
    exact (listL_bd hv (by omega) (by omega) h4.2).weak (by omega)
theorem field_bd {l : List UInt8} {val : Nat → R JV} (hv : ValBd l val) {i : Nat} (hi : i ≤ l.length) : Bd l i (field l val i) := by
  unfold field
  split
  · have := hd_len (l := l) (k := i) (by omega)
    have h1 := str_bd this
    rcases hx : str l i with ⟨q, e⟩ | ⟨n, j⟩
    · rw [hx] at h1; exact h1.weak (by omega)
    rw [hx] at h1
    have hj : i + 1 ≤ j ∧ j ≤ l.length := h1
    have hb := blanks_bd hj.2
    have h2 := word_bd (W := [58]) (by simp) hb.2
    simp only
    rcases hy : word l [58] (blanks l j) with ⟨q, e⟩ | k
    · rw [hy] at h2; exact h2.weak (by omega)
    rw [hy] at h2
    have hk : blanks l j ≤ k ∧ k ≤ l.length := h2
    have hb2 := blanks_bd hk.2
    have h3 := hv.1 _ hb2.2
    simp only
    rcases hz : val (blanks l k) with ⟨q, e⟩ | ⟨v, m⟩
    · rw [hz] at h3; exact h3.weak (by omega)
    rw [hz] at h3
    exact ⟨by have := h3.1; omega, h3.2⟩
  · exact ⟨Nat.le_refl _, hi, .inl rfl⟩
theorem field_lt {l : List UInt8} {val : Nat → R JV} (hv : ValBd l val) {i j : Nat} {x : ByteArray × JV} (h : field l val i = .ok (x, j)) : i < j ∧ i < l.length := by
  unfold field at h
  split at h
  · have hlt := hd_len (l := l) (k := i) (by omega)
    have h1 := str_bd hlt
    rcases hx : str l i with ⟨q, e⟩ | ⟨n, a⟩
    · rw [hx] at h; cases h
    rw [hx] at h h1
    have hj : i + 1 ≤ a ∧ a ≤ l.length := h1
    have hb := blanks_bd hj.2
    have h2 := word_bd (W := [58]) (by simp) hb.2
    simp only at h
    rcases hy : word l [58] (blanks l a) with ⟨q, e⟩ | k
    · rw [hy] at h; cases h
    rw [hy] at h h2
    have hk : blanks l a ≤ k ∧ k ≤ l.length := h2
    have hb2 := blanks_bd hk.2
    have h3 := hv.1 _ hb2.2
    simp only at h
    rcases hz : val (blanks l k) with ⟨q, e⟩ | ⟨v, m⟩
    · rw [hz] at h; cases h
    rw [hz] at h h3
    cases h
    have := h3.1
    exact ⟨by omega, hlt⟩
  · cases h
theorem objL_bd {l : List UInt8} {val : Nat → R JV} (hv : ValBd l val) : ∀ {n i : Nat} {first : Bool} {acc : List (ByteArray × JV)}, 0 < n → l.length < n + i → i ≤ l.length → Bd l i (objL l val n first i acc)
  | 0, i, first, acc, h, _, _ => by omega
  | n + 1, i, first, acc, _, hn, hi => by
    simp only [objL]
    split
    · have := hd_len (l := l) (k := i) (by omega)
      exact ⟨by omega, by omega⟩
    have h1 := comma_bd (first := first) hi
    rcases hx : comma l first i with ⟨q, e⟩ | j
    · rw [hx] at h1; exact h1
    rw [hx] at h1
    have hj : i ≤ j ∧ j ≤ l.length := h1
    simp only
    have h2 := field_bd hv hj.2
    rcases hy : field l val j with ⟨q, e⟩ | ⟨⟨nm, v⟩, k⟩
    · rw [hy] at h2; exact h2.weak (by omega)
    rw [hy] at h2
    have hk : j ≤ k ∧ k ≤ l.length := h2
    have h3 := field_lt hv hy
    have h4 := blanks_bd hk.2
    exact (objL_bd hv (by omega) (by omega) h4.2).weak (by omega)
theorem wordV_bd {l : List UInt8} {c : Nat} {W : List Nat} {i : Nat} {u : JV} (hc : ∀ c ∈ W, 0 < c) (h : hd l i = c) (h0 : 0 < c) : Bd l (i + 1) (wordV l (c :: W) i u) := by
  have hlt := hd_len (l := l) (k := i) (by omega)
  have h1 := word_bd (l := l) (W := W) hc (i := i + 1) (by omega)
  have e : word l (c :: W) i = word l W (i + 1) := if_pos h
  unfold wordV
  rw [e]
  rcases hx : word l W (i + 1) with ⟨q, e⟩ | j
  · rw [hx] at h1; exact h1
  · rw [hx] at h1; exact h1
theorem digits_lt {l : List UInt8} {i j : Nat} (h : digits l i = .ok j) : i < j ∧ i < l.length := by
  unfold digits at h
  split at h
  · rename_i h2
    cases h
    have hlen := hd_len (l := l) (k := i) (by omega)
    refine ⟨?_, hlen⟩
    unfold digitsEnd
    rw [List.drop_eq_getElem_cons hlen, List.takeWhile_cons]
    have hd' : isDigit l[i] = true := by
      unfold hd at h2
      rw [List.getD_eq_getElem?_getD, List.getElem?_eq_getElem hlen] at h2
      simp only [Option.getD_some] at h2
      unfold isDigit
      rw [Bool.and_eq_true, decide_eq_true_iff, decide_eq_true_iff]
      exact ⟨UInt8.le_iff_toNat_le.2 h2.1, UInt8.le_iff_toNat_le.2 h2.2⟩
    rw [if_pos hd']
    simp only [List.length_cons]
    omega
  · cases h
theorem number_lt {l : List UInt8} {i j : Nat} (h : number l i = .ok j) : i < j ∧ i < l.length := by
  have hi : i < l.length := by
    unfold number at h
    rcases Nat.lt_or_ge i l.length with h' | h'
    · exact h'
    · have h0 : hd l i = 0 := by unfold hd; rw [List.getD_eq_getElem?_getD, List.getElem?_eq_none h']; rfl
      have hm : numMinus l i = i := by unfold numMinus; rw [h0]; rfl
      have hw : numWhole l i = .error (i, 30) := by unfold numWhole digits; rw [h0]; rfl
      rw [hm, hw] at h; cases h
  refine ⟨?_, hi⟩
  unfold number at h
  have hm : i ≤ numMinus l i ∧ numMinus l i ≤ l.length := by
    unfold numMinus
    split
    · have := hd_len (l := l) (k := i) (by omega); omega
    · omega
  generalize numMinus l i = m at *
  rcases hx : numWhole l m with e | a
  · rw [hx] at h; cases h
  have ha : m < a ∧ a ≤ l.length := by
    unfold numWhole at hx
    split at hx
    · cases hx
      have := hd_len (l := l) (k := m) (by omega)
      omega
    · have h1 := digits_lt hx
      have h2 := digits_bd hm.2
      rw [hx] at h2
      exact ⟨h1.1, h2.2⟩
  rw [hx] at h
  simp only at h
  rcases hy : numFrac l a with e | b
  · rw [hy] at h; cases h
  have hb : a ≤ b := by
    unfold numFrac at hy
    split at hy
    · have := digits_lt hy; omega
    · cases hy; omega
  rw [hy] at h
  simp only at h
  unfold numExp at h
  split at h
  · have := digits_lt h
    split at this <;> omega
  · cases h; omega
theorem value_bd (l : List UInt8) : ∀ d, ValBd l (value l d) := by
  have lf : ∀ d i, (hd l i = 110 ∨ hd l i = 116 ∨ hd l i = 102 ∨ hd l i = 34 ∨ (hd l i ≠ 91 ∧ hd l i ≠ 123)) → i ≤ l.length → Bd l i (value l d i) ∧ ∀ v j, value l d i = .ok (v, j) → i < j ∧ i < l.length := by
    intro d i hs hi
    unfold value
    split
    · rename_i h; have h1 := wordV_bd (l := l) (W := [117, 108, 108]) (u := .mk 0 ⟨#[]⟩ [] []) (by simp) h (by omega)
      exact ⟨h1.weak (by omega), fun v j e => by rw [e] at h1; exact ⟨h1.1, hd_len (by omega)⟩⟩
    split
    · rename_i h; have h1 := wordV_bd (l := l) (W := [114, 117, 101]) (u := .mk 2 ⟨#[]⟩ [] []) (by simp) h (by omega)
      exact ⟨h1.weak (by omega), fun v j e => by rw [e] at h1; exact ⟨h1.1, hd_len (by omega)⟩⟩
    split
    · rename_i h; have h1 := wordV_bd (l := l) (W := [97, 108, 115, 101]) (u := .mk 1 ⟨#[]⟩ [] []) (by simp) h (by omega)
      exact ⟨h1.weak (by omega), fun v j e => by rw [e] at h1; exact ⟨h1.1, hd_len (by omega)⟩⟩
    split
    · have hlt := hd_len (l := l) (k := i) (by omega)
      have h1 := str_bd hlt
      rcases hx : str l i with ⟨q, e⟩ | ⟨n, j⟩
      · rw [hx] at h1; exact ⟨h1.weak (by omega), (fun v j e => by cases e)⟩
      · rw [hx] at h1
        have hj : i + 1 ≤ j ∧ j ≤ l.length := h1
        exact ⟨⟨by omega, hj.2⟩, fun v k e => by cases e; omega⟩
    rw [if_neg (by omega), if_neg (by omega)]
    have h1 := number_bd hi
    rcases hx : number l i with ⟨q, e⟩ | j
    · rw [hx] at h1; exact ⟨h1, (fun v j e => by cases e)⟩
    · rw [hx] at h1
      have := number_lt hx
      exact ⟨⟨by omega, h1.2⟩, fun v k e => by cases e; exact this⟩
  have l91 : ∀ {d i}, hd l i = 91 → value l d i = match d with
      | 0 => .error (i, 31)
      | d + 1 => match listL l (value l d) (l.length + 1) (blanks l (i + 1)) [] with
        | .error e => .error e
        | .ok (xs, j) => .ok (.mk 5 ⟨#[]⟩ xs [], j) := fun {d i} h => by
    unfold value
    rw [if_neg (by omega), if_neg (by omega), if_neg (by omega), if_neg (by omega), if_pos h]
    cases d <;> rfl
  have l123 : ∀ {d i}, hd l i = 123 → value l d i = match d with
      | 0 => .error (i, 31)
      | d + 1 => match objL l (value l d) (l.length + 1) true (blanks l (i + 1)) [] with
        | .error e => .error e
        | .ok (xs, j) => .ok (.mk 6 ⟨#[]⟩ [] xs, j) := fun {d i} h => by
    unfold value
    rw [if_neg (by omega), if_neg (by omega), if_neg (by omega), if_neg (by omega), if_neg (by omega), if_pos h]
    cases d <;> rfl
  have all : ∀ d i, i ≤ l.length → Bd l i (value l d i) ∧ ∀ v j, value l d i = .ok (v, j) → i < j ∧ i < l.length := by
    intro d
    induction d with
    | zero =>
      intro i hi
      by_cases h1 : hd l i = 91
      · rw [l91 h1]; exact ⟨⟨Nat.le_refl _, hi, .inr rfl⟩, (fun v j e => by cases e)⟩
      by_cases h2 : hd l i = 123
      · rw [l123 h2]; exact ⟨⟨Nat.le_refl _, hi, .inr rfl⟩, (fun v j e => by cases e)⟩
      exact lf 0 i (by omega) hi
    | succ d ih =>
      intro i hi
      have hv : ValBd l (value l d) := ⟨fun i hi => (ih i hi).1, fun i v j e => by
        rcases Nat.lt_or_ge l.length i with h | h
        · exfalso
          have h0 : hd l i = 0 := by unfold hd; rw [List.getD_eq_getElem?_getD, List.getElem?_eq_none (by omega)]; rfl
          have : value l d i = .error (i, 30) := value_out h0
          rw [this] at e; cases e
        · exact (ih i h).2 v j e⟩
      by_cases h1 : hd l i = 91
      · rw [l91 h1]
        have hlt := hd_len (l := l) (k := i) (by omega)
        have hb := blanks_bd (l := l) (i := i + 1) (by omega)
        have h2 := listL_bd hv (n := l.length + 1) (i := blanks l (i + 1)) (acc := []) (by omega) (by omega) hb.2
        simp only
        rcases hx : listL l (value l d) (l.length + 1) (blanks l (i + 1)) [] with ⟨q, e⟩ | ⟨xs, j⟩
        · rw [hx] at h2; exact ⟨h2.weak (by omega), (fun v j e => by cases e)⟩
        · rw [hx] at h2
          have hj : blanks l (i + 1) ≤ j ∧ j ≤ l.length := h2
          exact ⟨⟨by omega, hj.2⟩, fun v k e => by cases e; omega⟩
      by_cases h2 : hd l i = 123
      · rw [l123 h2]
        have hlt := hd_len (l := l) (k := i) (by omega)
        have hb := blanks_bd (l := l) (i := i + 1) (by omega)
        have h2 := objL_bd hv (n := l.length + 1) (i := blanks l (i + 1)) (first := true) (acc := []) (by omega) (by omega) hb.2
        simp only
        rcases hx : objL l (value l d) (l.length + 1) true (blanks l (i + 1)) [] with ⟨q, e⟩ | ⟨xs, j⟩
        · rw [hx] at h2; exact ⟨h2.weak (by omega), (fun v j e => by cases e)⟩
        · rw [hx] at h2
          have hj : blanks l (i + 1) ≤ j ∧ j ≤ l.length := h2
          exact ⟨⟨by omega, hj.2⟩, fun v k e => by cases e; omega⟩
      exact lf (d + 1) i (by omega) hi
  intro d
  refine ⟨fun i hi => (all d i hi).1, fun i v j e => ?_⟩
  rcases Nat.lt_or_ge l.length i with h | h
  · exfalso
    have h0 : hd l i = 0 := by unfold hd; rw [List.getD_eq_getElem?_getD, List.getElem?_eq_none (by omega)]; rfl
    have : value l d i = .error (i, 30) := value_out h0
    rw [this] at e; cases e
  · exact (all d i h).2 v j e
where
  value_out {l : List UInt8} {d i : Nat} (h : hd l i = 0) : value l d i = .error (i, 30) := by
    have hm : numMinus l i = i := by unfold numMinus; rw [h]; rfl
    have hw : numWhole l i = .error (i, 30) := by unfold numWhole digits; rw [h]; rfl
    have hn : number l i = .error (i, 30) := by unfold number; rw [hm, hw]
    unfold value
    rw [if_neg (by omega), if_neg (by omega), if_neg (by omega), if_neg (by omega), if_neg (by omega), if_neg (by omega), hn]
theorem value_out {l : List UInt8} {d i : Nat} (h : hd l i = 0) : value l d i = .error (i, 30) := value_bd.value_out h
end Js
end Go.Proofs.YtgnobnbbjekgnaaDoor
