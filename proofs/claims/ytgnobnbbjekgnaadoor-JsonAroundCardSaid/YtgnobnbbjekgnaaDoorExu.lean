import Derived.Test.YtgnobnbbjekgnaaDoorExt
/- Plain Lean: what is read of a text's beginning is read of the whole text: lists, objects, values. How deep. -/
namespace Go.Proofs.YtgnobnbbjekgnaaDoor
set_option linter.unusedVariables false
namespace Js
section
variable {l : List UInt8} {p : Nat}
theorem comma_ext (first : Bool) (i : Nat) : ∀ j, comma (l.take p) first i = .ok j → j < p → comma l first i = .ok j := by
  intro j h hj
  unfold comma at h ⊢
  split at h
  · rename_i hf; rw [if_pos hf]; exact h
  · rename_i hf
    rw [if_neg hf]
    rcases hx : word (l.take p) [44] i with e | k
    · rw [hx] at h; cases h
    · rw [hx] at h
      cases h
      rw [(word_ext l p [44] i (by simp)).1 k hx]
      simp only
      rw [blanks_ext hj]
theorem comma_no31 {l : List UInt8} {first : Bool} {i q : Nat} : comma l first i ≠ .error (q, 31) := by
  unfold comma
  split
  · intro h; cases h
  · rcases hx : word l [44] i with e | j
    · intro h
      simp only at h
      cases h
      have := (word_ext l l.length [44] i (by simp)).2 q
      rw [List.take_length] at this
      exact this hx
    · intro h; cases h
/-- Readings of values: of the beginning, of the whole; at the end of the beginning there is none. -/
def ValExt (val' val : Nat → R JV) (p : Nat) : Prop := (∀ i, ExtAt (val' i) (val i)) ∧ ∀ i, p ≤ i → val' i = .error (i, 30)
theorem listL_ext {val' val : Nat → R JV} (hv : ValExt val' val p) (hb : ValBd l val) : ∀ (n' n i : Nat) (acc : List JV), 0 < n → l.length < n + i → ExtAt (listL (l.take p) val' n' i acc) (listL l val n i acc)
  | 0, n, i, acc, _, _ => ⟨(fun x j h => by cases h), (fun q h => by cases h)⟩
  | n' + 1, 0, i, acc, h, _ => by omega
  | n' + 1, n + 1, i, acc, _, hn => by
    simp only [listL]
    by_cases h93 : hd (l.take p) i = 93
    · rw [if_pos h93, if_pos (hd_back h93 (by omega)).1]; exact ExtAt.rf rfl
    rw [if_neg h93]
    rcases Nat.lt_or_ge i p with hip | hip
    · rw [hd_take hip] at h93
      rw [if_neg h93]
      rcases hx : comma (l.take p) acc.isEmpty i with e | j
      · refine ⟨(fun x j h => by cases h), fun q h => ?_⟩
        cases h
        exact absurd hx comma_no31
      simp only
      rcases Nat.lt_or_ge j p with hjp | hjp
      · have hc := comma_ext _ _ j hx hjp
        rw [hc]
        simp only
        have hij := ((comma_cut l 0 acc.isEmpty i).1 j hc).1
        rcases hy : val' j with e | ⟨v, k⟩
        · exact (hv.1 j).err hy rfl (fun h => by rw [h])
        have hvj := (hv.1 j).1 v k hy
        rw [hvj]
        simp only
        have hlt := hb.2 j v k hvj
        have hbk : k ≤ blanks l k := by unfold blanks; omega
        rcases Nat.lt_or_ge (blanks (l.take p) k) p with hbp | hbp
        · rw [← blanks_ext hbp]
          exact listL_ext hv hb n' n (blanks l k) _ (by omega) (by omega)
        · -- the beginning has ended
          cases n' with
          | zero => exact ⟨(fun x j h => by cases h), (fun q h => by cases h)⟩
          | succ n' =>
            simp only [listL]
            have h0 : hd (l.take p) (blanks (l.take p) k) = 0 := hd_cut hbp
            rw [h0, if_neg (by decide)]
            have : comma (l.take p) (acc ++ [v]).isEmpty (blanks (l.take p) k) = .error (blanks (l.take p) k, 30) := by
              unfold comma
              rw [if_neg (by simp)]
              simp only [word]
              rw [h0, if_neg (by decide)]
            rw [this]
            exact ExtAt.e30 _
      · rw [hv.2 j hjp]
        exact ExtAt.e30 _
    · have h0 : hd (l.take p) i = 0 := hd_cut hip
      unfold comma
      by_cases hf : acc.isEmpty = true
      · rw [if_pos hf]
        simp only
        rw [hv.2 i hip]
        exact ExtAt.e30 _
      · rw [if_neg hf]
        simp only [word]
        rw [h0, if_neg (by decide)]
        exact ExtAt.e30 _
theorem field_ext {val' val : Nat → R JV} (hv : ValExt val' val p) (i : Nat) : ExtAt (field (l.take p) val' i) (field l val i) := by
  unfold field
  by_cases h34 : hd (l.take p) i = 34
  · rw [if_pos h34, if_pos (hd_back h34 (by omega)).1]
    rcases hx : str (l.take p) i with e | ⟨n, j⟩
    · exact (str_ext i).err hx rfl (fun h => by rw [h])
    rw [(str_ext i).1 n j hx]
    simp only
    rcases hy : word (l.take p) [58] (blanks (l.take p) j) with e | k
    · refine ⟨(fun x j h => by cases h), fun q h => ?_⟩
      cases h
      exact absurd hy ((word_ext l p [58] _ (by simp)).2 q)
    have hb1 : blanks (l.take p) j < p := by
      simp only [word] at hy
      split at hy
      · rename_i h; exact (hd_back h (by omega)).2
      · cases hy
    rw [blanks_ext hb1, (word_ext l p [58] _ (by simp)).1 k hy]
    simp only
    rcases Nat.lt_or_ge (blanks (l.take p) k) p with hbp | hbp
    · rw [blanks_ext hbp]
      rcases hz : val' (blanks (l.take p) k) with e | ⟨v, m⟩
      · exact (hv.1 _).err hz rfl (fun h => by rw [h])
      · rw [(hv.1 _).1 v m hz]; exact ExtAt.rf rfl
    · rw [hv.2 _ hbp]; exact ExtAt.e30 _
  · rw [if_neg h34]; exact ExtAt.e30 _
theorem objL_ext {val' val : Nat → R JV} (hv : ValExt val' val p) (hb : ValBd l val) : ∀ (n' n : Nat) (first : Bool) (i : Nat) (acc : List (ByteArray × JV)), 0 < n → l.length < n + i → ExtAt (objL (l.take p) val' n' first i acc) (objL l val n first i acc)
  | 0, n, first, i, acc, _, _ => ⟨(fun x j h => by cases h), (fun q h => by cases h)⟩
  | n' + 1, 0, first, i, acc, h, _ => by omega
  | n' + 1, n + 1, first, i, acc, _, hn => by
    simp only [objL]
    by_cases h93 : hd (l.take p) i = 125
    · rw [if_pos h93, if_pos (hd_back h93 (by omega)).1]; exact ExtAt.rf rfl
    rw [if_neg h93]
    have fout : ∀ j, p ≤ j → field (l.take p) val' j = .error (j, 30) := fun j hj => by
      unfold field
      rw [hd_cut hj, if_neg (by decide)]
    rcases Nat.lt_or_ge i p with hip | hip
    · rw [hd_take hip] at h93
      rw [if_neg h93]
      rcases hx : comma (l.take p) first i with e | j
      · refine ⟨(fun x j h => by cases h), fun q h => ?_⟩
        cases h
        exact absurd hx comma_no31
      simp only
      rcases Nat.lt_or_ge j p with hjp | hjp
      · have hc := comma_ext _ _ j hx hjp
        rw [hc]
        simp only
        have hij := ((comma_cut l 0 first i).1 j hc).1
        rcases hy : field (l.take p) val' j with e | ⟨⟨nm, v⟩, k⟩
        · exact (field_ext hv j).err hy rfl (fun h => by rw [h])
        have hvj := (field_ext hv j).1 _ k hy
        rw [hvj]
        simp only
        have hlt := field_lt hb hvj
        have hbk : k ≤ blanks l k := by unfold blanks; omega
        rcases Nat.lt_or_ge (blanks (l.take p) k) p with hbp | hbp
        · rw [← blanks_ext hbp]
          exact objL_ext hv hb n' n false (blanks l k) _ (by omega) (by omega)
        · cases n' with
          | zero => exact ⟨(fun x j h => by cases h), (fun q h => by cases h)⟩
          | succ n' =>
            simp only [objL]
            have h0 : hd (l.take p) (blanks (l.take p) k) = 0 := hd_cut hbp
            rw [h0, if_neg (by decide)]
            have : comma (l.take p) false (blanks (l.take p) k) = .error (blanks (l.take p) k, 30) := by
              unfold comma
              rw [if_neg (by simp)]
              simp only [word]
              rw [h0, if_neg (by decide)]
            rw [this]
            exact ExtAt.e30 _
      · rw [fout j hjp]
        exact ExtAt.e30 _
    · have h0 : hd (l.take p) i = 0 := hd_cut hip
      unfold comma
      by_cases hf : first = true
      · rw [if_pos hf]
        simp only
        rw [fout i hip]
        exact ExtAt.e30 _
      · rw [if_neg hf]
        simp only [word]
        rw [h0, if_neg (by decide)]
        exact ExtAt.e30 _
theorem leaf_ext (hh : Halts (hd l p)) (d i : Nat) (h1 : hd (l.take p) i ≠ 91) (h2 : hd (l.take p) i ≠ 123) : ExtAt (value (l.take p) d i) (value l d i) := by
  rcases Nat.lt_or_ge i p with hip | hip
  · have e : hd (l.take p) i = hd l i := hd_take hip
    have w : ∀ W u, (∀ c ∈ W, 0 < c) → ExtAt (wordV (l.take p) W i u) (wordV l W i u) := fun W u hW => by
      unfold wordV
      rcases hx : word (l.take p) W i with e | j
      · exact (word_ext l p W i hW).err hx rfl
      · rw [(word_ext l p W i hW).1 j hx]; exact ExtAt.rf rfl
    rw [value_leaf h1 h2, value_leaf (by rw [← e]; exact h1) (by rw [← e]; exact h2), e]
    split
    · exact w _ _ (by simp)
    split
    · exact w _ _ (by simp)
    split
    · exact w _ _ (by simp)
    split
    · rcases hx : str (l.take p) i with e | ⟨t, j⟩
      · exact (str_ext i).err hx rfl (fun h => by rw [h])
      · rw [(str_ext i).1 t j hx]; exact ExtAt.rf rfl
    · rcases hx : number (l.take p) i with e | j
      · exact (number_ext hh i).err hx rfl
      · rw [(number_ext hh i).1 j hx]
        refine ExtAt.rf ?_
        have hj := number_bd (l := l.take p) (i := i) (by have := (number_lt hx).2; omega)
        rw [hx] at hj
        have hj2 : j ≤ (l.take p).length := hj.2
        rw [List.length_take] at hj2
        simp only
        rw [List.drop_take, List.take_take, Nat.min_eq_left (by omega)]
  · rw [value_out (hd_cut hip)]; exact ExtAt.e30 _
theorem value_ext (hh : Halts (hd l p)) : ∀ d, ValExt (value (l.take p) d) (value l d) p := by
  have out : ∀ d i, p ≤ i → value (l.take p) d i = .error (i, 30) := fun d i h => value_out (hd_cut h)
  intro d
  induction d with
  | zero =>
    refine ⟨fun i => ?_, out 0⟩
    by_cases h : hd (l.take p) i = 91 ∨ hd (l.take p) i = 123
    · have h' : hd l i = 91 ∨ hd l i = 123 := h.imp (fun h => (hd_back h (by omega)).1) (fun h => (hd_back h (by omega)).1)
      rw [value_deep h, value_deep h']; exact ExtAt.rf rfl
    · exact leaf_ext hh 0 i (fun e => h (.inl e)) (fun e => h (.inr e))
  | succ d ih =>
    refine ⟨fun i => ?_, out (d + 1)⟩
    by_cases h1 : hd (l.take p) i = 91
    · obtain ⟨h1', hip⟩ := hd_back h1 (by omega)
      have hlen := hd_len (l := l) (k := i) (by omega)
      have hbi : i + 1 ≤ blanks l (i + 1) := by unfold blanks; omega
      rw [value_list h1, value_list h1']
      rcases Nat.lt_or_ge (blanks (l.take p) (i + 1)) p with hbp | hbp
      · have hL := listL_ext ih (value_bd l d) ((l.take p).length + 1) (l.length + 1) (blanks l (i + 1)) [] (by omega) (by omega)
        rw [← blanks_ext hbp]
        rcases hx : listL (l.take p) (value (l.take p) d) ((l.take p).length + 1) (blanks l (i + 1)) [] with e | ⟨xs, j⟩
        · exact hL.err hx rfl (fun h => by rw [h])
        · rw [hL.1 xs j hx]; exact ExtAt.rf rfl
      · have : listL (l.take p) (value (l.take p) d) ((l.take p).length + 1) (blanks (l.take p) (i + 1)) [] = .error (blanks (l.take p) (i + 1), 30) := by
          simp only [listL]
          rw [hd_cut hbp, if_neg (by decide)]
          simp only [comma, List.isEmpty_nil, if_true]
          rw [out d _ hbp]
        rw [this]
        exact ExtAt.e30 _
    by_cases h2 : hd (l.take p) i = 123
    · obtain ⟨h2', hip⟩ := hd_back h2 (by omega)
      have hlen := hd_len (l := l) (k := i) (by omega)
      have hbi : i + 1 ≤ blanks l (i + 1) := by unfold blanks; omega
      rw [value_obj h2, value_obj h2']
      rcases Nat.lt_or_ge (blanks (l.take p) (i + 1)) p with hbp | hbp
      · have hL := objL_ext ih (value_bd l d) ((l.take p).length + 1) (l.length + 1) true (blanks l (i + 1)) [] (by omega) (by omega)
        rw [← blanks_ext hbp]
        rcases hx : objL (l.take p) (value (l.take p) d) ((l.take p).length + 1) true (blanks l (i + 1)) [] with e | ⟨xs, j⟩
        · exact hL.err hx rfl (fun h => by rw [h])
        · rw [hL.1 xs j hx]; exact ExtAt.rf rfl
      · have : objL (l.take p) (value (l.take p) d) ((l.take p).length + 1) true (blanks (l.take p) (i + 1)) [] = .error (blanks (l.take p) (i + 1), 30) := by
          simp only [objL]
          rw [hd_cut hbp, if_neg (by decide)]
          simp only [comma, if_true]
          unfold field
          rw [hd_cut hbp, if_neg (by decide)]
        rw [this]
        exact ExtAt.e30 _
    exact leaf_ext hh (d + 1) i h1 h2
end

/-! ### One level less -/
def Less {α : Type} (r r' : R α) : Prop := ∀ x j, r = .ok (x, j) → r' = .ok (x, j) ∨ ∃ q, r' = .error (q, 31)
theorem listL_less {l : List UInt8} {val val' : Nat → R JV} (hv : ∀ i, Less (val i) (val' i)) : ∀ (n i : Nat) (acc : List JV), Less (listL l val n i acc) (listL l val' n i acc)
  | 0, i, acc => fun x j h => by cases h
  | n + 1, i, acc => fun x j h => by
    simp only [listL] at h ⊢
    split at h
    · rename_i h93; rw [if_pos h93]; exact .inl h
    · rename_i h93
      rw [if_neg h93]
      rcases hx : comma l acc.isEmpty i with e | k
      · rw [hx] at h; cases h
      rw [hx] at h
      simp only at h ⊢
      rcases hy : val k with e | ⟨v, m⟩
      · rw [hy] at h; cases h
      rw [hy] at h
      rcases hv k v m hy with h' | ⟨q, h'⟩
      · rw [h']; exact listL_less hv n _ _ x j h
      · rw [h']; exact .inr ⟨q, rfl⟩
theorem objL_less {l : List UInt8} {val val' : Nat → R JV} (hv : ∀ i, Less (val i) (val' i)) : ∀ (n : Nat) (first : Bool) (i : Nat) (acc : List (ByteArray × JV)), Less (objL l val n first i acc) (objL l val' n first i acc)
  | 0, first, i, acc => fun x j h => by cases h
  | n + 1, first, i, acc => fun x j h => by
    simp only [objL] at h ⊢
    split at h
    · rename_i h93; rw [if_pos h93]; exact .inl h
    · rename_i h93
      rw [if_neg h93]
      rcases hx : comma l first i with e | k
      · rw [hx] at h; cases h
      rw [hx] at h
      simp only at h ⊢
      have hf : Less (field l val k) (field l val' k) := by
        intro x j h
        unfold field at h ⊢
        split at h
        · rename_i h34
          rw [if_pos h34]
          rcases hs : str l k with e | ⟨n, a⟩
          · rw [hs] at h; cases h
          rw [hs] at h
          simp only at h ⊢
          rcases hw : word l [58] (blanks l a) with e | b
          · rw [hw] at h; cases h
          rw [hw] at h
          simp only at h ⊢
          rcases hz : val (blanks l b) with e | ⟨v, m⟩
          · rw [hz] at h; cases h
          rw [hz] at h
          rcases hv _ v m hz with h' | ⟨q, h'⟩
          · rw [h']; exact .inl h
          · rw [h']; exact .inr ⟨q, rfl⟩
        · cases h
      rcases hy : field l val k with e | ⟨⟨nm, v⟩, m⟩
      · rw [hy] at h; cases h
      rw [hy] at h
      rcases hf _ m hy with h' | ⟨q, h'⟩
      · rw [h']; exact objL_less hv n _ _ _ x j h
      · rw [h']; exact .inr ⟨q, rfl⟩
theorem value_less (l : List UInt8) : ∀ d i, Less (value l (d + 1) i) (value l d i) := by
  intro d
  induction d with
  | zero =>
    intro i x j h
    by_cases h1 : hd l i = 91 ∨ hd l i = 123
    · exact .inr ⟨i, value_deep h1⟩
    · rw [value_leaf (fun e => h1 (.inl e)) (fun e => h1 (.inr e))] at h ⊢
      exact .inl h
  | succ d ih =>
    intro i x j h
    by_cases h1 : hd l i = 91
    · rw [value_list h1] at h ⊢
      rcases hx : listL l (value l (d + 1)) (l.length + 1) (blanks l (i + 1)) [] with e | ⟨xs, k⟩
      · rw [hx] at h; cases h
      rw [hx] at h
      rcases listL_less ih _ _ _ xs k hx with h' | ⟨q, h'⟩
      · rw [h']; exact .inl h
      · rw [h']; exact .inr ⟨q, rfl⟩
    by_cases h2 : hd l i = 123
    · rw [value_obj h2] at h ⊢
      rcases hx : objL l (value l (d + 1)) (l.length + 1) true (blanks l (i + 1)) [] with e | ⟨xs, k⟩
      · rw [hx] at h; cases h
      rw [hx] at h
      rcases objL_less ih _ _ _ _ xs k hx with h' | ⟨q, h'⟩
      · rw [h']; exact .inl h
      · rw [h']; exact .inr ⟨q, rfl⟩
    · rw [value_leaf h1 h2] at h ⊢
      exact .inl h

/-! ### A value's last byte is no blank -/
def LastOk (l : List UInt8) (j : Nat) : Prop := ∃ k, j = k + 1 ∧ 33 ≤ hd l k
theorem word_last {l : List UInt8} : ∀ {W : List Nat} {i j : Nat}, word l W i = .ok j → W ≠ [] → (∀ c ∈ W, 33 ≤ c) → LastOk l j
  | [], i, j, h, hn, _ => absurd rfl hn
  | [c], i, j, h, _, hc => by
    simp only [word] at h
    split at h
    · rename_i he; cases h; exact ⟨i, rfl, by rw [he]; exact hc c (by simp)⟩
    · cases h
  | c :: c2 :: W, i, j, h, _, hc => by
    simp only [word] at h
    split at h
    · exact word_last (W := c2 :: W) (i := i + 1) (by simp only [word]; exact h) (by simp) (fun c h => hc c (by simp at h ⊢; exact .inr h))
    · cases h
theorem digits_last {l : List UInt8} {i j : Nat} (h : digits l i = .ok j) : LastOk l j := by
  have hlt := digits_lt h
  have hle := digits_le h
  refine ⟨j - 1, by omega, ?_⟩
  unfold digits at h
  split at h
  · cases h
    have hn : digitsEnd l i - 1 - i < ((l.drop i).takeWhile isDigit).length := by unfold digitsEnd at hlt ⊢; omega
    obtain ⟨c, hc, hd'⟩ := tw_get _ _ hn
    rw [List.getElem?_drop, show i + (digitsEnd l i - 1 - i) = digitsEnd l i - 1 by omega] at hc
    have := isDigit_hd hc hd'
    omega
  · cases h
theorem number_last {l : List UInt8} {i j : Nat} (h : number l i = .ok j) : LastOk l j := by
  unfold number at h
  rcases hx : numWhole l (numMinus l i) with e | a
  · rw [hx] at h; cases h
  have ha : LastOk l a := by
    unfold numWhole at hx
    split at hx
    · rename_i he; cases hx; exact ⟨_, rfl, by rw [he]; decide⟩
    · exact digits_last hx
  rw [hx] at h
  simp only at h
  rcases hy : numFrac l a with e | b
  · rw [hy] at h; cases h
  have hb : LastOk l b := by
    unfold numFrac at hy
    split at hy
    · exact digits_last hy
    · cases hy; exact ha
  rw [hy] at h
  simp only at h
  unfold numExp at h
  split at h
  · exact digits_last h
  · cases h; exact hb
theorem text_last {l : List UInt8} : ∀ {n i : Nat} {out x : List UInt8} {j : Nat}, text l n i out = .ok (x, j) → LastOk l j
  | 0, i, out, x, j, h => by cases h
  | n + 1, i, out, x, j, h => by
    simp only [text] at h
    split at h
    · rename_i he; cases h; exact ⟨i, rfl, by rw [he]; decide⟩
    split at h
    · cases h
    split at h
    · rcases hx : escape l (i + 1) with e | ⟨u, k⟩
      · rw [hx] at h; cases h
      · rw [hx] at h; exact text_last h
    split at h
    · exact text_last h
    · cases h
theorem listL_last {l : List UInt8} {val : Nat → R JV} : ∀ {n i : Nat} {acc x : List JV} {j : Nat}, listL l val n i acc = .ok (x, j) → LastOk l j
  | 0, i, acc, x, j, h => by cases h
  | n + 1, i, acc, x, j, h => by
    simp only [listL] at h
    split at h
    · rename_i he; cases h; exact ⟨i, rfl, by rw [he]; decide⟩
    · rcases hx : comma l acc.isEmpty i with e | k
      · rw [hx] at h; cases h
      rw [hx] at h
      simp only at h
      rcases hy : val k with e | ⟨v, m⟩
      · rw [hy] at h; cases h
      · rw [hy] at h; exact listL_last h
theorem objL_last {l : List UInt8} {val : Nat → R JV} : ∀ {n : Nat} {first : Bool} {i : Nat} {acc x : List (ByteArray × JV)} {j : Nat}, objL l val n first i acc = .ok (x, j) → LastOk l j
  | 0, first, i, acc, x, j, h => by cases h
  | n + 1, first, i, acc, x, j, h => by
    simp only [objL] at h
    split at h
    · rename_i he; cases h; exact ⟨i, rfl, by rw [he]; decide⟩
    · rcases hx : comma l first i with e | k
      · rw [hx] at h; cases h
      rw [hx] at h
      simp only at h
      rcases hy : field l val k with e | ⟨⟨nm, v⟩, m⟩
      · rw [hy] at h; cases h
      · rw [hy] at h; exact objL_last h
theorem value_last {l : List UInt8} {d i j : Nat} {v : JV} (h : value l d i = .ok (v, j)) : LastOk l j := by
  by_cases h1 : hd l i = 91
  · cases d with
    | zero => rw [value_deep (.inl h1)] at h; cases h
    | succ d =>
      rw [value_list h1] at h
      rcases hx : listL l (value l d) (l.length + 1) (blanks l (i + 1)) [] with e | ⟨xs, k⟩
      · rw [hx] at h; cases h
      · rw [hx] at h; cases h; exact listL_last hx
  by_cases h2 : hd l i = 123
  · cases d with
    | zero => rw [value_deep (.inr h2)] at h; cases h
    | succ d =>
      rw [value_obj h2] at h
      rcases hx : objL l (value l d) (l.length + 1) true (blanks l (i + 1)) [] with e | ⟨xs, k⟩
      · rw [hx] at h; cases h
      · rw [hx] at h; cases h; exact objL_last hx
  have hw : ∀ W u, W ≠ [] → (∀ c ∈ W, 33 ≤ c) → wordV l W i u = .ok (v, j) → LastOk l j := fun W u hn hc h => by
    unfold wordV at h
    rcases hx : word l W i with e | k
    · rw [hx] at h; cases h
    · rw [hx] at h; cases h; exact word_last hx hn hc
  rw [value_leaf h1 h2] at h
  split at h
  · exact hw _ _ (by simp) (by simp) h
  split at h
  · exact hw _ _ (by simp) (by simp) h
  split at h
  · exact hw _ _ (by simp) (by simp) h
  split at h
  · rcases hx : str l i with e | ⟨t, k⟩
    · rw [hx] at h; cases h
    · rw [hx] at h; cases h; exact text_last hx
  · rcases hx : number l i with e | k
    · rw [hx] at h; cases h
    · rw [hx] at h; cases h; exact number_last hx
end Js
end Go.Proofs.YtgnobnbbjekgnaaDoor
