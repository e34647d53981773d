import Derived.Test.YtgnobnbbjekgnaaDoorRep
import Derived.Test.YtgnobnbbjekgnaaDoorRdn
/- Plain Lean: a reading goes on, and not behind the text's end. -/
namespace Go.Proofs.YtgnobnbbjekgnaaDoor
set_option linter.unusedVariables false

theorem blanksS {s : ByteArray} {i : Nat} (h : i ≤ s.size) : Js.blanks s.data.toList i ≤ s.size := by have := blanks_le s.data.toList i (by rw [len_data]; exact h); rw [len_data] at this; exact this
theorem word_ok {s : ByteArray} : ∀ {W : List Nat} {i j : Nat}, Js.word s.data.toList W i = .ok j → (∀ c ∈ W, 0 < c) → i ≤ s.size → j = i + W.length ∧ j ≤ s.size
  | [], i, j, h, _, hi => by simp only [Js.word] at h; cases h; exact ⟨rfl, hi⟩
  | c :: W, i, j, h, hc, hi => by
    simp only [Js.word] at h
    split at h
    · rename_i he
      have := hd_pos (s := s) (i := i) (by rw [he]; exact hc c (by simp))
      have h2 := word_ok h (fun c hc' => hc c (by simp [hc'])) (by omega)
      rw [List.length_cons]; omega
    · cases h
theorem text_ok {s : ByteArray} : ∀ {n i : Nat} {out t : List UInt8} {j : Nat}, Js.text s.data.toList n i out = .ok (t, j) → i ≤ s.size → i < j ∧ j ≤ s.size ∧ t.length + 4 * i ≤ out.length + 4 * j
  | 0, i, out, t, j, h, hi => by simp only [Js.text] at h; cases h
  | n + 1, i, out, t, j, h, hi => by
    simp only [Js.text] at h
    split at h
    · rename_i he
      have := hd_pos (s := s) (i := i) (by omega)
      cases h; omega
    · split at h
      · cases h
      · rename_i h1 h2
        have hp := hd_pos (s := s) (i := i) (by omega)
        split at h
        · rcases hx : Js.escape s.data.toList (i + 1) with e | ⟨u, k⟩
          · rw [hx] at h; cases h
          · rw [hx] at h
            have h3 := escape_ok hx (by omega)
            have h4 := text_ok h h3.2.2
            have := encodeRune_le (u : Int)
            rw [List.length_append] at h4
            omega
        · split at h
          · have h3 := dec_bounds hp
            have h4 := text_ok h h3.2.1
            rw [List.length_append, List.length_take] at h4
            omega
          · cases h
theorem str_ok {s : ByteArray} {i j : Nat} {t : List UInt8} (h : Js.str s.data.toList i = .ok (t, j)) (hi : i < s.size) : i < j ∧ j ≤ s.size ∧ t.length ≤ 4 * j := by
  have := text_ok h hi
  simp only [List.length_nil] at this
  omega
theorem comma_ok {s : ByteArray} {first : Bool} {i j : Nat} (h : Js.comma s.data.toList first i = .ok j) (hi : i ≤ s.size) : i ≤ j ∧ j ≤ s.size := by
  unfold Js.comma at h
  split at h
  · cases h; omega
  · rcases hw : Js.word s.data.toList [44] i with e | k
    · rw [hw] at h; cases h
    · rw [hw] at h
      cases h
      have h1 := word_ok hw (by simp) hi
      have h2 := blanksS (i := k) (s := s) h1.2
      have h3 : k ≤ Js.blanks s.data.toList k := by unfold Js.blanks; omega
      simp only [List.length_cons, List.length_nil] at h1
      omega
def ValOk (s : ByteArray) (val : Nat → Js.R JV) : Prop := ∀ {i : Nat} {v : JV} {j : Nat}, val i = .ok (v, j) → i ≤ s.size → i < j ∧ j ≤ s.size
theorem listL_ok {s : ByteArray} {val : Nat → Js.R JV} (hv : ValOk s val) : ∀ {n i : Nat} {acc r : List JV} {j : Nat}, Js.listL s.data.toList val n i acc = .ok (r, j) → i ≤ s.size → i < j ∧ j ≤ s.size
  | 0, i, acc, r, j, h, hi => by simp only [Js.listL] at h; cases h
  | n + 1, i, acc, r, j, h, hi => by
    simp only [Js.listL] at h
    split at h
    · rename_i he
      have := hd_pos (s := s) (i := i) (by omega)
      cases h; omega
    · rcases hc : Js.comma s.data.toList acc.isEmpty i with e | k
      · rw [hc] at h; cases h
      · rw [hc] at h
        simp only at h
        have h1 := comma_ok hc hi
        rcases hx : val k with e | ⟨v, m⟩
        · rw [hx] at h; cases h
        · rw [hx] at h
          have h2 := hv hx h1.2
          have h3 := blanksS (i := m) (s := s) h2.2
          have h4 : m ≤ Js.blanks s.data.toList m := by unfold Js.blanks; omega
          have h5 := listL_ok hv h h3
          omega
theorem field_ok {s : ByteArray} {val : Nat → Js.R JV} (hv : ValOk s val) {i j : Nat} {p : ByteArray × JV} (h : Js.field s.data.toList val i = .ok (p, j)) (hi : i ≤ s.size) : i < j ∧ j ≤ s.size := by
  unfold Js.field at h
  split at h
  · rename_i he
    have hp := hd_pos (s := s) (i := i) (by omega)
    rcases hs : Js.str s.data.toList i with e | ⟨t, a⟩
    · rw [hs] at h; cases h
    · rw [hs] at h
      simp only at h
      have h1 := str_ok hs hp
      have h2 := blanksS (i := a) (s := s) h1.2.1
      have h3 : a ≤ Js.blanks s.data.toList a := by unfold Js.blanks; omega
      rcases hw : Js.word s.data.toList [58] (Js.blanks s.data.toList a) with e | k
      · rw [hw] at h; cases h
      · rw [hw] at h
        simp only at h
        have h4 := word_ok hw (by simp) h2
        have h5 := blanksS (i := k) (s := s) h4.2
        have h6 : k ≤ Js.blanks s.data.toList k := by unfold Js.blanks; omega
        rcases hx : val (Js.blanks s.data.toList k) with e | ⟨v, m⟩
        · rw [hx] at h; cases h
        · rw [hx] at h
          cases h
          have h7 := hv hx h5
          simp only [List.length_cons, List.length_nil] at h4
          omega
  · cases h
theorem objL_ok {s : ByteArray} {val : Nat → Js.R JV} (hv : ValOk s val) : ∀ {n : Nat} {first : Bool} {i : Nat} {acc r : List (ByteArray × JV)} {j : Nat}, Js.objL s.data.toList val n first i acc = .ok (r, j) → i ≤ s.size → i < j ∧ j ≤ s.size
  | 0, first, i, acc, r, j, h, hi => by simp only [Js.objL] at h; cases h
  | n + 1, first, i, acc, r, j, h, hi => by
    simp only [Js.objL] at h
    split at h
    · rename_i he
      have := hd_pos (s := s) (i := i) (by omega)
      cases h; omega
    · rcases hc : Js.comma s.data.toList first i with e | k
      · rw [hc] at h; cases h
      · rw [hc] at h
        simp only at h
        have h1 := comma_ok hc hi
        rcases hx : Js.field s.data.toList val k with e | ⟨⟨nm, v⟩, m⟩
        · rw [hx] at h; cases h
        · rw [hx] at h
          have h2 := field_ok hv hx h1.2
          have h3 := blanksS (i := m) (s := s) h2.2
          have h4 : m ≤ Js.blanks s.data.toList m := by unfold Js.blanks; omega
          have h5 := objL_ok hv h h3
          omega
theorem wordV_ok {s : ByteArray} {W : List Nat} {i j : Nat} {u v : JV} (h : Js.wordV s.data.toList W i u = .ok (v, j)) (hc : ∀ c ∈ W, 0 < c) (h0 : 0 < W.length) (hi : i ≤ s.size) : i < j ∧ j ≤ s.size := by
  unfold Js.wordV at h
  rcases hw : Js.word s.data.toList W i with e | k
  · rw [hw] at h; cases h
  · rw [hw] at h
    cases h
    have := word_ok hw hc hi
    omega
theorem value_ok (s : ByteArray) : ∀ d, ValOk s (Js.value s.data.toList d) := by
  intro d
  induction d with
  | zero =>
    intro i v j h hi
    unfold Js.value at h
    split at h
    · exact wordV_ok h (by simp) (by simp) hi
    split at h
    · exact wordV_ok h (by simp) (by simp) hi
    split at h
    · exact wordV_ok h (by simp) (by simp) hi
    split at h
    · rename_i he
      rcases hs : Js.str s.data.toList i with e | ⟨t, a⟩
      · rw [hs] at h; cases h
      · rw [hs] at h; cases h
        have := str_ok hs (hd_pos (s := s) (i := i) (by omega))
        omega
    split at h
    · cases h
    split at h
    · cases h
    rcases hn : Js.number s.data.toList i with e | k
    · rw [hn] at h; cases h
    · rw [hn] at h; cases h
      exact number_ok hn hi
  | succ d ih =>
    intro i v j h hi
    unfold Js.value at h
    split at h
    · exact wordV_ok h (by simp) (by simp) hi
    split at h
    · exact wordV_ok h (by simp) (by simp) hi
    split at h
    · exact wordV_ok h (by simp) (by simp) hi
    split at h
    · rename_i he
      rcases hs : Js.str s.data.toList i with e | ⟨t, a⟩
      · rw [hs] at h; cases h
      · rw [hs] at h; cases h
        have := str_ok hs (hd_pos (s := s) (i := i) (by omega))
        omega
    split at h
    · rename_i he
      have hp := hd_pos (s := s) (i := i) (by omega)
      have h3 := blanksS (i := i + 1) (s := s) (by omega)
      have h4 : i + 1 ≤ Js.blanks s.data.toList (i + 1) := by unfold Js.blanks; omega
      simp only at h
      rcases hl : Js.listL s.data.toList (Js.value s.data.toList d) (s.data.toList.length + 1) (Js.blanks s.data.toList (i + 1)) [] with e | ⟨xs, k⟩
      · rw [hl] at h; cases h
      · rw [hl] at h; cases h
        have := listL_ok ih hl h3
        omega
    split at h
    · rename_i he
      have hp := hd_pos (s := s) (i := i) (by omega)
      have h3 := blanksS (i := i + 1) (s := s) (by omega)
      have h4 : i + 1 ≤ Js.blanks s.data.toList (i + 1) := by unfold Js.blanks; omega
      simp only at h
      rcases hl : Js.objL s.data.toList (Js.value s.data.toList d) (s.data.toList.length + 1) true (Js.blanks s.data.toList (i + 1)) [] with e | ⟨xs, k⟩
      · rw [hl] at h; cases h
      · rw [hl] at h; cases h
        have := objL_ok ih hl h3
        omega
    rcases hn : Js.number s.data.toList i with e | k
    · rw [hn] at h; cases h
    · rw [hn] at h; cases h
      exact number_ok hn hi
end Go.Proofs.YtgnobnbbjekgnaaDoor
