import Derived.Test.YtgnobnbbjekgnaaDoorTwn
import Derived.Test.YtgnobnbbjekgnaaDoorCuc
/- Plain Lean: what is read has no list that is longer than the text. -/
namespace Go.Proofs.YtgnobnbbjekgnaaDoor
set_option linter.unusedVariables false
namespace Js

theorem bndL_snoc {N : Nat} {v : JV} (hv : bndV N v) : ∀ {l : List JV}, bndL N l → bndL N (l ++ [v])
  | [], _ => by simp only [List.nil_append, bndL]; exact ⟨hv, trivial⟩
  | u :: l, h => by simp only [List.cons_append, bndL] at h ⊢; exact ⟨h.1, bndL_snoc hv h.2⟩
theorem bndF_put {N : Nat} {n : ByteArray} {v : JV} (hv : bndV N v) : ∀ {l : List (ByteArray × JV)}, bndF N l → bndF N (put n v l)
  | [], _ => by simp only [put, bndF]; exact ⟨hv, trivial⟩
  | (m, u) :: l, h => by
    simp only [bndF] at h
    simp only [put]
    split
    · simp only [bndF]; exact ⟨hv, h.2⟩
    · simp only [bndF]; exact ⟨h.1, bndF_put hv h.2⟩
theorem put_len {n : ByteArray} {v : JV} : ∀ {l : List (ByteArray × JV)}, (put n v l).length ≤ l.length + 1
  | [] => by simp [put]
  | (m, u) :: l => by
    simp only [put]
    split
    · simp
    · have := put_len (n := n) (v := v) (l := l)
      simp only [List.length_cons]
      omega
section
variable {l : List UInt8} {N : Nat} (hN : l.length ≤ N)
include hN
def ValBnv (l : List UInt8) (N : Nat) (val : Nat → R JV) : Prop := ∀ i v j, i ≤ l.length → val i = .ok (v, j) → bndV N v
theorem listL_bnv {val : Nat → R JV} (hv : ValBnv l N val) (hb : ValBd l val) : ∀ {n i : Nat} {acc x : List JV} {j : Nat}, i ≤ l.length → acc.length ≤ i → bndL N acc → listL l val n i acc = .ok (x, j) → x.length ≤ N ∧ bndL N x
  | 0, i, acc, x, j, _, _, _, h => by cases h
  | n + 1, i, acc, x, j, hi, ha, hacc, h => by
    simp only [listL] at h
    split at h
    · cases h; exact ⟨by omega, hacc⟩
    have h1 := comma_bd (first := acc.isEmpty) hi
    rcases hx : comma l acc.isEmpty i with e | k
    · rw [hx] at h; cases h
    rw [hx] at h h1
    have hk : i ≤ k ∧ k ≤ l.length := h1
    simp only at h
    rcases hy : val k with e | ⟨v, m⟩
    · rw [hy] at h; cases h
    rw [hy] at h
    have h2 := hb.1 k hk.2
    rw [hy] at h2
    have h3 := hb.2 k v m hy
    have h4 := blanks_bd h2.2
    exact listL_bnv hv hb h4.2 (by rw [List.length_append]; simp only [List.length_cons, List.length_nil]; omega) (bndL_snoc (hv k v m hk.2 hy) hacc) h
omit hN in
theorem field_bnv {val : Nat → R JV} (hv : ValBnv l N val) (hb : ValBd l val) {i j : Nat} {nm : ByteArray} {v : JV} (hi : i ≤ l.length) (h : field l val i = .ok ((nm, v), j)) : bndV N v := by
  unfold field at h
  split at h
  · have hlt := hd_len (l := l) (k := i) (by omega)
    have h1 := str_bd hlt
    rcases hx : str l i with e | ⟨n, a⟩
    · rw [hx] at h; cases h
    rw [hx] at h h1
    simp only at h
    have hj : i + 1 ≤ a ∧ a ≤ l.length := h1
    have hb1 := blanks_bd hj.2
    have h2 := word_bd (W := [58]) (by simp) hb1.2
    rcases hy : word l [58] (blanks l a) with e | k
    · rw [hy] at h; cases h
    rw [hy] at h h2
    simp only at h
    have hk : blanks l a ≤ k ∧ k ≤ l.length := h2
    have hb2 := blanks_bd hk.2
    rcases hz : val (blanks l k) with e | ⟨u, m⟩
    · rw [hz] at h; cases h
    rw [hz] at h
    cases h
    exact hv _ _ _ hb2.2 hz
  · cases h
theorem objL_bnv {val : Nat → R JV} (hv : ValBnv l N val) (hb : ValBd l val) : ∀ {n : Nat} {first : Bool} {i : Nat} {acc x : List (ByteArray × JV)} {j : Nat}, i ≤ l.length → acc.length ≤ i → bndF N acc → objL l val n first i acc = .ok (x, j) → x.length ≤ N ∧ bndF N x
  | 0, first, i, acc, x, j, _, _, _, h => by cases h
  | n + 1, first, i, acc, x, j, hi, ha, hacc, h => by
    simp only [objL] at h
    split at h
    · cases h; exact ⟨by omega, hacc⟩
    have h1 := comma_bd (first := first) hi
    rcases hx : comma l first i with e | k
    · rw [hx] at h; cases h
    rw [hx] at h h1
    have hk : i ≤ k ∧ k ≤ l.length := h1
    simp only at h
    rcases hy : field l val k with e | ⟨⟨nm, v⟩, m⟩
    · rw [hy] at h; cases h
    rw [hy] at h
    have h2 := field_bd hb hk.2
    rw [hy] at h2
    have h3 := field_lt hb hy
    have h4 := blanks_bd h2.2
    have h5 := put_len (n := nm) (v := v) (l := acc)
    exact objL_bnv hv hb h4.2 (by omega) (bndF_put (field_bnv hv hb hk.2 hy) hacc) h
theorem value_bnv : ∀ d, ValBnv l N (value l d) := by
  have leaf : ∀ d i v j, hd l i ≠ 91 → hd l i ≠ 123 → value l d i = .ok (v, j) → bndV N v := fun d i v j h1 h2 h => by
    have tr : ∀ k t, bndV N (.mk k t [] []) := fun k t => by simp [bndV, bndL, bndF]
    have hw : ∀ W k t, wordV l W i (.mk k t [] []) = .ok (v, j) → bndV N v := fun W k t h => by
      unfold wordV at h
      rcases hx : word l W i with e | a
      · rw [hx] at h; cases h
      · rw [hx] at h; cases h; exact tr k t
    rw [value_leaf h1 h2] at h
    split at h
    · exact hw _ _ _ h
    split at h
    · exact hw _ _ _ h
    split at h
    · exact hw _ _ _ h
    split at h
    · rcases hx : str l i with e | ⟨t, a⟩
      · rw [hx] at h; cases h
      · rw [hx] at h; cases h; exact tr _ _
    · rcases hx : number l i with e | a
      · rw [hx] at h; cases h
      · rw [hx] at h; cases h; exact tr _ _
  intro d
  induction d with
  | zero =>
    intro i v j hi h
    by_cases h1 : hd l i = 91 ∨ hd l i = 123
    · rw [value_deep h1] at h; cases h
    · exact leaf 0 i v j (fun e => h1 (.inl e)) (fun e => h1 (.inr e)) h
  | succ d ih =>
    intro i v j hi h
    by_cases h1 : hd l i = 91
    · rw [value_list h1] at h
      have hlt := hd_len (l := l) (k := i) (by omega)
      have hb := blanks_bd (l := l) (i := i + 1) (by omega)
      rcases hx : listL l (value l d) (l.length + 1) (blanks l (i + 1)) [] with e | ⟨xs, k⟩
      · rw [hx] at h; cases h
      · rw [hx] at h; cases h
        have := listL_bnv hN ih (value_bd l d) hb.2 (by simp) (by simp [bndL]) hx
        simp [bndV, bndF, this.1, this.2]
    by_cases h2 : hd l i = 123
    · rw [value_obj h2] at h
      have hlt := hd_len (l := l) (k := i) (by omega)
      have hb := blanks_bd (l := l) (i := i + 1) (by omega)
      rcases hx : objL l (value l d) (l.length + 1) true (blanks l (i + 1)) [] with e | ⟨xs, k⟩
      · rw [hx] at h; cases h
      · rw [hx] at h; cases h
        have := objL_bnv hN ih (value_bd l d) hb.2 (by simp) (by simp [bndF]) hx
        simp [bndV, bndL, this.1, this.2]
    exact leaf (d + 1) i v j h1 h2 h
end
theorem parse_bnv (l : List UInt8) : bndV 262144 (parse l).1 := by
  unfold parse
  have tr : bndV 262144 JV.null := by simp [JV.null, bndV, bndL, bndF]
  split
  · exact tr
  · rename_i hl
    rcases hx : value l 64 (blanks l 0) with ⟨i, e⟩ | ⟨v, j⟩
    · exact tr
    · simp only
      split
      · exact tr
      · exact value_bnv (by omega) 64 _ _ _ (blanks_bd (by omega)).2 hx
end Js
end Go.Proofs.YtgnobnbbjekgnaaDoor
