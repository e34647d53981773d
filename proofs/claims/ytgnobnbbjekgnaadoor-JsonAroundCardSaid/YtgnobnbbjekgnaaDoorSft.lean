import Derived.Test.YtgnobnbbjekgnaaDoorCuc
/- Plain Lean: a text behind another: all readings are the same, at places behind it. -/
namespace Go.Proofs.YtgnobnbbjekgnaaDoor
set_option linter.unusedVariables false
namespace Js

def sftP (a : Nat) : Except (Nat × Int) Nat → Except (Nat × Int) Nat
  | .ok j => .ok (a + j)
  | .error (p, e) => .error (a + p, e)
def sftR (a : Nat) {α : Type} : R α → R α
  | .ok (x, j) => .ok (x, a + j)
  | .error (p, e) => .error (a + p, e)
section
variable (pre m : List UInt8)
theorem hd_sft (i : Nat) : hd (pre ++ m) (pre.length + i) = hd m i := by
  unfold hd
  rw [List.getD_eq_getElem?_getD, List.getD_eq_getElem?_getD, List.getElem?_append_right (by omega), Nat.add_sub_cancel_left]
theorem hd_sft' (i k : Nat) : hd (pre ++ m) (pre.length + i + k) = hd m (i + k) := by rw [Nat.add_assoc]; exact hd_sft pre m _
theorem drop_sft (i : Nat) : (pre ++ m).drop (pre.length + i) = m.drop i := by
  rw [List.drop_append, List.drop_of_length_le (by omega), Nat.add_sub_cancel_left, List.nil_append]
theorem blanks_sft (i : Nat) : blanks (pre ++ m) (pre.length + i) = pre.length + blanks m i := by
  unfold blanks; rw [drop_sft]; omega
theorem digitsEnd_sft (i : Nat) : digitsEnd (pre ++ m) (pre.length + i) = pre.length + digitsEnd m i := by
  unfold digitsEnd; rw [drop_sft]; omega
theorem word_sft : ∀ (W : List Nat) (i : Nat), word (pre ++ m) W (pre.length + i) = sftP pre.length (word m W i)
  | [], i => rfl
  | c :: W, i => by
    simp only [word]
    rw [hd_sft]
    by_cases h : hd m i = c
    · rw [if_pos h, if_pos h]; exact word_sft W (i + 1)
    · rw [if_neg h, if_neg h]; rfl
theorem digits_sft (i : Nat) : digits (pre ++ m) (pre.length + i) = sftP pre.length (digits m i) := by
  unfold digits
  rw [hd_sft, digitsEnd_sft]
  split <;> rfl
theorem number_sft (i : Nat) : number (pre ++ m) (pre.length + i) = sftP pre.length (number m i) := by
  have h1 : numMinus (pre ++ m) (pre.length + i) = pre.length + numMinus m i := by
    unfold numMinus; rw [hd_sft]; split <;> omega
  have h2 : ∀ i, numWhole (pre ++ m) (pre.length + i) = sftP pre.length (numWhole m i) := fun i => by
    unfold numWhole; rw [hd_sft, digits_sft]; split <;> rfl
  have h3 : ∀ i, numFrac (pre ++ m) (pre.length + i) = sftP pre.length (numFrac m i) := fun i => by
    unfold numFrac; rw [hd_sft, Nat.add_assoc, digits_sft]; split <;> rfl
  have h4 : ∀ i, numExp (pre ++ m) (pre.length + i) = sftP pre.length (numExp m i) := fun i => by
    unfold numExp
    rw [hd_sft, Nat.add_assoc, hd_sft, Nat.add_assoc]
    split
    · split
      · exact digits_sft pre m _
      · exact digits_sft pre m _
    · rfl
  unfold number
  rw [h1, h2]
  rcases numWhole m (numMinus m i) with ⟨p, e⟩ | j
  · rfl
  simp only [sftP]
  rw [h3]
  rcases numFrac m j with ⟨p, e⟩ | k
  · rfl
  simp only [sftP]
  exact h4 k
theorem hexes_sft : ∀ (k n i : Nat), hexes (pre ++ m) k n (pre.length + i) = sftR pre.length (hexes m k n i)
  | 0, n, i => rfl
  | k + 1, n, i => by
    simp only [hexes]
    rw [hd_sft]
    rcases hex (hd m i) with _ | d
    · rfl
    · exact hexes_sft k _ (i + 1)
theorem unit_sft (i : Nat) : unit (pre ++ m) (pre.length + i) = sftR pre.length (unit m i) := by
  unfold unit
  rw [hd_sft, Nat.add_assoc, hexes_sft]
  split <;> rfl
theorem pair_sft (i u : Nat) : pair (pre ++ m) (pre.length + i) u = pair m i u := by
  unfold pair
  rw [hd_sft, Nat.add_assoc pre.length i 1, hd_sft, Nat.add_assoc pre.length i 2, hexes_sft, List.length_append]
  have e : (pre.length + m.length < pre.length + i + 6) = (m.length < i + 6) := propext ⟨fun h => by omega, fun h => by omega⟩
  simp only [e]
  split
  · rfl
  split
  · rcases hexes m 4 0 (i + 2) with ⟨p, e⟩ | ⟨x, j⟩ <;> rfl
  · rfl
theorem escape_sft (i : Nat) : escape (pre ++ m) (pre.length + i) = sftR pre.length (escape m i) := by
  unfold escape
  rw [hd_sft]
  rcases esc1 (hd m i) with _ | c
  · simp only
    rw [unit_sft]
    rcases unit m i with ⟨p, e⟩ | ⟨u, j⟩
    · rfl
    simp only [sftR]
    rw [pair_sft]
    split
    · split
      · rw [Nat.add_assoc, unit_sft]
        rcases unit m (j + 1) with ⟨p, e⟩ | ⟨w, k⟩ <;> rfl
      · rfl
    · rfl
  · rfl
theorem dec_sft (i : Nat) : dec (pre ++ m) (pre.length + i) = dec m i := by
  unfold dec
  rw [hd_sft, Nat.add_assoc pre.length i 1, hd_sft, Nat.add_assoc pre.length i 2, hd_sft, Nat.add_assoc pre.length i 3, hd_sft, List.length_append]
  congr 1
  omega
theorem whole_sft (i : Nat) : whole (pre ++ m) (pre.length + i) = whole m i := by
  unfold whole
  rw [dec_sft, List.length_append]
  congr 1
  exact decide_eq_decide.2 ⟨fun h => by omega, fun h => by omega⟩
theorem text_sft : ∀ (n n' i : Nat) (out : List UInt8), 0 < n → 0 < n' → m.length < n + i → m.length < n' + i → text (pre ++ m) n (pre.length + i) out = sftR pre.length (text m n' i out)
  | 0, n', i, out, h, _, _, _ => by omega
  | n + 1, 0, i, out, _, h, _, _ => by omega
  | n + 1, n' + 1, i, out, _, _, hn, hn' => by
    simp only [text]
    rw [hd_sft]
    by_cases h34 : hd m i = 34
    · rw [if_pos h34, if_pos h34]; rfl
    rw [if_neg h34, if_neg h34]
    by_cases h32 : hd m i < 32
    · rw [if_pos h32, if_pos h32]; rfl
    rw [if_neg h32, if_neg h32]
    have hlen := hd_len (l := m) (k := i) (by omega)
    by_cases h92 : hd m i = 92
    · rw [if_pos h92, if_pos h92, Nat.add_assoc, escape_sft]
      rcases hx : escape m (i + 1) with ⟨p, e⟩ | ⟨u, j⟩
      · rfl
      · have := escape_lt hx
        exact text_sft n n' j _ (by omega) (by omega) (by omega) (by omega)
    rw [if_neg h92, if_neg h92, whole_sft, dec_sft, drop_sft]
    rcases hw : whole m i with _ | _
    · rfl
    · have h0 : 1 ≤ (dec m i).2 := decodeN_pos _ _ _ _ _
      rw [if_pos rfl, if_pos rfl, Nat.add_assoc]
      exact text_sft n n' (i + (dec m i).2) _ (by omega) (by omega) (by omega) (by omega)
theorem str_sft (i : Nat) : str (pre ++ m) (pre.length + i) = sftR pre.length (str m i) := by
  unfold str
  rw [Nat.add_assoc]
  exact text_sft pre m _ _ (i + 1) [] (by omega) (by omega) (by rw [List.length_append]; omega) (by omega)
theorem comma_sft (first : Bool) (i : Nat) : comma (pre ++ m) first (pre.length + i) = sftP pre.length (comma m first i) := by
  unfold comma
  rw [word_sft]
  split
  · rfl
  · rcases word m [44] i with ⟨p, e⟩ | j
    · rfl
    · simp only [sftP]
      rw [blanks_sft]
def ValSft (a : Nat) (val val' : Nat → R JV) : Prop := ∀ i, val (a + i) = sftR a (val' i)
theorem listL_sft {val val' : Nat → R JV} (hv : ValSft pre.length val val') (hb : ValBd m val') : ∀ (n n' i : Nat) (acc : List JV), 0 < n → 0 < n' → m.length < n + i → m.length < n' + i → listL (pre ++ m) val n (pre.length + i) acc = sftR pre.length (listL m val' n' i acc)
  | 0, n', i, acc, h, _, _, _ => by omega
  | n + 1, 0, i, acc, _, h, _, _ => by omega
  | n + 1, n' + 1, i, acc, _, _, hn, hn' => by
    simp only [listL]
    rw [hd_sft]
    by_cases h93 : hd m i = 93
    · rw [if_pos h93, if_pos h93]; rfl
    rw [if_neg h93, if_neg h93, comma_sft]
    rcases hx : comma m acc.isEmpty i with ⟨p, e⟩ | j
    · rfl
    simp only [sftP]
    rw [hv j]
    rcases hy : val' j with ⟨p, e⟩ | ⟨v, k⟩
    · rfl
    simp only [sftR]
    have h1 := hb.2 j v k hy
    have h2 : i ≤ j := ((comma_cut m 0 acc.isEmpty i).1 j hx).1
    have h3 : k ≤ blanks m k := by unfold blanks; omega
    rw [blanks_sft]
    exact listL_sft hv hb n n' (blanks m k) _ (by omega) (by omega) (by omega) (by omega)
theorem field_sft {val val' : Nat → R JV} (hv : ValSft pre.length val val') (i : Nat) : field (pre ++ m) val (pre.length + i) = sftR pre.length (field m val' i) := by
  unfold field
  rw [hd_sft, str_sft]
  split
  · rcases str m i with ⟨p, e⟩ | ⟨n, j⟩
    · rfl
    simp only [sftR]
    rw [blanks_sft, word_sft]
    rcases word m [58] (blanks m j) with ⟨p, e⟩ | k
    · rfl
    simp only [sftP]
    rw [blanks_sft, hv]
    rcases val' (blanks m k) with ⟨p, e⟩ | ⟨v, q⟩ <;> rfl
  · rfl
theorem objL_sft {val val' : Nat → R JV} (hv : ValSft pre.length val val') (hb : ValBd m val') : ∀ (n n' : Nat) (first : Bool) (i : Nat) (acc : List (ByteArray × JV)), 0 < n → 0 < n' → m.length < n + i → m.length < n' + i → objL (pre ++ m) val n first (pre.length + i) acc = sftR pre.length (objL m val' n' first i acc)
  | 0, n', first, i, acc, h, _, _, _ => by omega
  | n + 1, 0, first, i, acc, _, h, _, _ => by omega
  | n + 1, n' + 1, first, i, acc, _, _, hn, hn' => by
    simp only [objL]
    rw [hd_sft]
    by_cases h93 : hd m i = 125
    · rw [if_pos h93, if_pos h93]; rfl
    rw [if_neg h93, if_neg h93, comma_sft]
    rcases hx : comma m first i with ⟨p, e⟩ | j
    · rfl
    simp only [sftP]
    rw [field_sft pre m hv j]
    rcases hy : field m val' j with ⟨p, e⟩ | ⟨⟨nm, v⟩, k⟩
    · rfl
    simp only [sftR]
    have h1 := field_lt hb hy
    have h2 : i ≤ j := ((comma_cut m 0 first i).1 j hx).1
    have h3 : k ≤ blanks m k := by unfold blanks; omega
    rw [blanks_sft]
    exact objL_sft hv hb n n' false (blanks m k) _ (by omega) (by omega) (by omega) (by omega)
theorem leaf_sft (d i : Nat) (h1 : hd m i ≠ 91) (h2 : hd m i ≠ 123) : value (pre ++ m) d (pre.length + i) = sftR pre.length (value m d i) := by
  have hw : ∀ W u, wordV (pre ++ m) W (pre.length + i) u = sftR pre.length (wordV m W i u) := fun W u => by
    unfold wordV
    rw [word_sft]
    rcases word m W i with ⟨p, e⟩ | j <;> rfl
  rw [value_leaf h1 h2, value_leaf (by rw [hd_sft]; exact h1) (by rw [hd_sft]; exact h2), hd_sft, hw, hw, hw, str_sft, number_sft, drop_sft]
  split
  · rfl
  split
  · rfl
  split
  · rfl
  split
  · rcases str m i with ⟨p, e⟩ | ⟨t, j⟩ <;> rfl
  · rcases number m i with ⟨p, e⟩ | j
    · rfl
    · simp only [sftP, sftR]
      rw [Nat.add_sub_add_left]
theorem value_sft : ∀ d, ValSft pre.length (value (pre ++ m) d) (value m d) := by
  intro d
  induction d with
  | zero =>
    intro i
    by_cases h : hd m i = 91 ∨ hd m i = 123
    · rw [value_deep h, value_deep (by rw [hd_sft]; exact h)]; rfl
    · exact leaf_sft pre m 0 i (fun e => h (.inl e)) (fun e => h (.inr e))
  | succ d ih =>
    intro i
    have hbi : i + 1 ≤ blanks m (i + 1) := by unfold blanks; omega
    by_cases h1 : hd m i = 91
    · rw [value_list h1, value_list (by rw [hd_sft]; exact h1), Nat.add_assoc, blanks_sft, listL_sft pre m ih (value_bd m d) ((pre ++ m).length + 1) (m.length + 1) (blanks m (i + 1)) [] (by omega) (by omega) (by rw [List.length_append]; omega) (by omega)]
      rcases listL m (value m d) (m.length + 1) (blanks m (i + 1)) [] with ⟨p, e⟩ | ⟨xs, j⟩ <;> rfl
    by_cases h2 : hd m i = 123
    · rw [value_obj h2, value_obj (by rw [hd_sft]; exact h2), Nat.add_assoc, blanks_sft, objL_sft pre m ih (value_bd m d) ((pre ++ m).length + 1) (m.length + 1) true (blanks m (i + 1)) [] (by omega) (by omega) (by rw [List.length_append]; omega) (by omega)]
      rcases objL m (value m d) (m.length + 1) true (blanks m (i + 1)) [] with ⟨p, e⟩ | ⟨xs, j⟩ <;> rfl
    exact leaf_sft pre m (d + 1) i h1 h2
end
end Js
end Go.Proofs.YtgnobnbbjekgnaaDoor
