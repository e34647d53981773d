import Derived.Test.YtgnobnbbjekgnaaDoorCuc
/- Plain Lean: brackets within one another, as deep as may be or deeper. -/
namespace Go.Proofs.YtgnobnbbjekgnaaDoor
set_option linter.unusedVariables false
namespace Js

theorem at_drop {l r : List UInt8} {i : Nat} {c : UInt8} (h : l.drop i = c :: r) : hd l i = c.toNat ∧ l.drop (i + 1) = r ∧ i < l.length := by
  have hi : i < l.length := by
    rcases Nat.lt_or_ge i l.length with h' | h'
    · exact h'
    · rw [List.drop_eq_nil_of_le h'] at h; cases h
  rw [List.drop_eq_getElem_cons hi] at h
  injection h with h1 h2
  refine ⟨?_, h2, hi⟩
  unfold hd
  rw [List.getD_eq_getElem?_getD, List.getElem?_eq_getElem hi, h1]; rfl
theorem blanks_none {l : List UInt8} {i : Nat} (h : ∀ c, c ∈ (l.drop i).head? → isBlank c = false) : blanks l i = i := by
  unfold blanks
  rcases hd : l.drop i with _ | ⟨c, r⟩
  · simp
  · rw [hd] at h
    rw [List.takeWhile_cons, if_neg (by rw [h c (by simp)]; simp)]
    simp
/-- The brackets that open, that shut. -/
def opn : List Bool → List UInt8
  | [] => []
  | b :: bs => (if b then [123, 34, 97, 34, 58] else [91]) ++ opn bs
def shut : List Bool → List UInt8
  | [] => []
  | b :: bs => shut bs ++ [if b then 125 else 93]
def nest : List Bool → JV
  | [] => .mk 3 ⟨#[55]⟩ [] []
  | b :: bs => if b then .mk 6 ⟨#[]⟩ [] [(⟨#[97]⟩, nest bs)] else .mk 5 ⟨#[]⟩ [nest bs] []
def deepText (bs : List Bool) : List UInt8 := opn bs ++ 55 :: shut bs
theorem deepText_cons (b : Bool) (bs : List Bool) : deepText (b :: bs) = (if b then [123, 34, 97, 34, 58] else [91]) ++ (deepText bs ++ [if b then 125 else 93]) := by
  simp [deepText, opn, shut]
theorem deepText_head (bs : List Bool) (post : List UInt8) : ∃ c r, deepText bs ++ post = c :: r ∧ isBlank c = false ∧ (c = 123 ∨ c = 91 ∨ c = 55) := by
  rcases bs with _ | ⟨b, bs⟩
  · exact ⟨55, shut [] ++ post, rfl, rfl, .inr (.inr rfl)⟩
  · rcases b with _ | _
    · exact ⟨91, _, by rw [deepText_cons]; rfl, rfl, .inr (.inl rfl)⟩
    · exact ⟨123, _, by rw [deepText_cons]; rfl, rfl, .inl rfl⟩
/-- What ends a number. -/
def Ends (post : List UInt8) : Prop := ∀ c, c ∈ post.head? → c = 125 ∨ c = 93
theorem seven {l post : List UInt8} {d i : Nat} (h : l.drop i = 55 :: post) (he : Ends post) : value l d i = .ok (.mk 3 ⟨#[55]⟩ [] [], i + 1) := by
  obtain ⟨h1, h2, h3⟩ := at_drop h
  have h1 : hd l i = 55 := h1
  have hn : hd l (i + 1) = 0 ∨ hd l (i + 1) = 125 ∨ hd l (i + 1) = 93 := by
    rcases post with _ | ⟨c, r⟩
    · exact .inl (by
        unfold hd
        rw [List.getD_eq_getElem?_getD, List.getElem?_eq_none (by have := congrArg List.length h2; rw [List.length_drop] at this; simp at this; omega)]; rfl)
    · have h4 := (at_drop h2).1
      rcases he c (by simp) with e | e
      · exact .inr (.inl (by rw [h4, e]; rfl))
      · exact .inr (.inr (by rw [h4, e]; rfl))
  have hm : numMinus l i = i := by unfold numMinus; rw [if_neg (by omega)]
  have hde : digitsEnd l i = i + 1 := by
    unfold digitsEnd
    rw [h, List.takeWhile_cons, if_pos (by rfl)]
    have : post.takeWhile isDigit = [] := by
      rcases post with _ | ⟨c, r⟩
      · rfl
      · rw [List.takeWhile_cons, if_neg]
        rcases he c (by simp) with e | e <;> (rw [e]; decide)
    rw [this]
    rfl
  have hw : numWhole l i = .ok (i + 1) := by
    unfold numWhole digits
    rw [if_neg (by omega), if_pos (by omega), hde]
  have hf : numFrac l (i + 1) = .ok (i + 1) := by unfold numFrac; rw [if_neg (by omega)]
  have hx : numExp l (i + 1) = .ok (i + 1) := by unfold numExp; rw [if_neg (by omega)]
  have hnum : number l i = .ok (i + 1) := by
    unfold number
    rw [hm, hw]
    simp only
    rw [hf]
    simp only
    rw [hx]
  rw [value_leaf (by omega) (by omega), if_neg (by omega), if_neg (by omega), if_neg (by omega), if_neg (by omega), hnum]
  simp only
  rw [h, show i + 1 - i = 1 by omega]
  rfl
theorem str_a {l r : List UInt8} {i : Nat} (h : l.drop i = 34 :: 97 :: 34 :: r) : str l i = .ok ([97], i + 3) := by
  obtain ⟨h1, h2, h3⟩ := at_drop h
  obtain ⟨h4, h5, h6⟩ := at_drop h2
  obtain ⟨h7, h8, h9⟩ := at_drop h5
  have h4 : hd l (i + 1) = 97 := h4
  have h7 : hd l (i + 1 + 1) = 34 := h7
  have hdec : dec l (i + 1) = (97, 1) := by unfold dec Lib.decodeN; rw [h4]; rfl
  have hw : whole l (i + 1) = true := whole_iff.2 ⟨h6, by rw [hdec]; decide⟩
  unfold str
  obtain ⟨m, hm⟩ : ∃ m, l.length + 1 = m + 1 + 1 := ⟨l.length - 1, by omega⟩
  rw [hm]
  simp only [text]
  rw [if_neg (by omega), if_neg (by omega), if_neg (by omega), hw, if_pos rfl, hdec]
  simp only
  rw [h7, if_pos rfl, h2]
  rfl
theorem deep_value {l : List UInt8} : ∀ (bs : List Bool) (d i : Nat) (post : List UInt8), l.drop i = deepText bs ++ post → Ends post →
    value l d i = if bs.length ≤ d then .ok (nest bs, i + (deepText bs).length) else .error (i + (opn (bs.take d)).length, 31)
  | [], d, i, post, h, he => by
    rw [if_pos (by simp)]
    exact seven (by rw [h]; rfl) he
  | b :: bs, 0, i, post, h, he => by
    rw [if_neg (by simp)]
    have : hd l i = 91 ∨ hd l i = 123 := by
      rw [deepText_cons] at h
      rcases b with _ | _
      · exact .inl (at_drop (c := 91) (by rw [h]; rfl)).1
      · exact .inr (at_drop (c := 123) (by rw [h]; rfl)).1
    rw [value_deep this]
    rfl
  | b :: bs, d + 1, i, post, h, he => by
    rw [deepText_cons] at h
    rcases b with _ | _
    · have h' : l.drop i = 91 :: (deepText bs ++ (93 :: post)) := by rw [h]; simp
      obtain ⟨h1, h2, h3⟩ := at_drop h'
      have h1 : hd l i = 91 := h1
      have ih := deep_value bs d (i + 1) (93 :: post) h2 (fun c hc => .inr (by simpa using hc.symm))
      obtain ⟨c, r, hc, hbl, hcc⟩ := deepText_head bs (93 :: post)
      have hb1 : blanks l (i + 1) = i + 1 := blanks_none (fun c' hc' => by rw [h2, hc] at hc'; cases hc'; exact hbl)
      have hne : hd l (i + 1) ≠ 93 := by
        rw [(at_drop (h2.trans hc)).1]
        rcases hcc with e | e | e <;> (rw [e]; decide)
      rw [value_list h1, hb1]
      obtain ⟨m, hm⟩ : ∃ m, l.length + 1 = m + 1 + 1 := ⟨l.length - 1, by omega⟩
      rw [hm]
      simp only [listL]
      rw [if_neg hne]
      simp only [comma, List.isEmpty_nil, if_true]
      rw [ih]
      by_cases hd' : bs.length ≤ d
      · rw [if_pos hd', if_pos (by simp; omega)]
        simp only
        have h6 : l.drop (i + 1 + (deepText bs).length) = 93 :: post := by
          rw [← List.drop_drop, h2, List.drop_append_of_le_length (Nat.le_refl _), List.drop_length, List.nil_append]
        have hb2 : blanks l (i + 1 + (deepText bs).length) = i + 1 + (deepText bs).length := blanks_none (fun c' hc' => by rw [h6] at hc'; cases hc'; rfl)
        rw [hb2, (at_drop h6).1, if_pos (by rfl)]
        simp only [nest, deepText_cons]
        simp
        omega
      · rw [if_neg hd', if_neg (by simp; omega)]
        simp [opn]
        omega
    · have h' : l.drop i = 123 :: (34 :: 97 :: 34 :: 58 :: (deepText bs ++ (125 :: post))) := by rw [h]; simp
      obtain ⟨h1, h2, h3⟩ := at_drop h'
      have h1 : hd l i = 123 := h1
      have hb1 : blanks l (i + 1) = i + 1 := blanks_none (fun c' hc' => by rw [h2] at hc'; cases hc'; rfl)
      have hs := str_a h2
      obtain ⟨q1, q2, q3⟩ := at_drop h2
      obtain ⟨r1, r2, r3⟩ := at_drop q2
      obtain ⟨s1, s2, s3⟩ := at_drop r2
      obtain ⟨t1, t2, t3⟩ := at_drop s2
      have q1 : hd l (i + 1) = 34 := q1
      have t1 : hd l (i + 4) = 58 := t1
      have t2 : l.drop (i + 5) = _ := t2
      have s2 : l.drop (i + 4) = _ := s2
      have hb4 : blanks l (i + 4) = i + 4 := blanks_none (fun c' hc' => by rw [s2] at hc'; cases hc'; rfl)
      have ih := deep_value bs d (i + 5) (125 :: post) t2 (fun c hc => .inl (by simpa using hc.symm))
      obtain ⟨c, r, hc, hbl, hcc⟩ := deepText_head bs (125 :: post)
      have hb5 : blanks l (i + 5) = i + 5 := blanks_none (fun c' hc' => by rw [t2, hc] at hc'; cases hc'; exact hbl)
      have hfield : field l (value l d) (i + 1) = match value l d (i + 5) with
          | .error e => .error e
          | .ok (v, m) => .ok ((⟨#[97]⟩, v), m) := by
        unfold field
        rw [if_pos q1, hs]
        simp only
        rw [show i + 1 + 3 = i + 4 from rfl, hb4]
        simp only [word]
        rw [if_pos t1]
        simp only
        rw [show i + 4 + 1 = i + 5 from rfl, hb5]
        rfl
      rw [value_obj h1, hb1]
      obtain ⟨m, hm⟩ : ∃ m, l.length + 1 = m + 1 + 1 := ⟨l.length - 1, by omega⟩
      rw [hm]
      simp only [objL]
      rw [if_neg (by omega)]
      simp only [comma, if_true]
      rw [hfield, ih]
      by_cases hd' : bs.length ≤ d
      · rw [if_pos hd', if_pos (by simp; omega)]
        simp only
        have h6 : l.drop (i + 5 + (deepText bs).length) = 125 :: post := by
          rw [← List.drop_drop, t2, List.drop_append_of_le_length (Nat.le_refl _), List.drop_length, List.nil_append]
        have hb2 : blanks l (i + 5 + (deepText bs).length) = i + 5 + (deepText bs).length := blanks_none (fun c' hc' => by rw [h6] at hc'; cases hc'; rfl)
        rw [hb2, (at_drop h6).1, if_pos (by rfl)]
        simp only [nest, deepText_cons, put]
        simp
        omega
      · rw [if_neg hd', if_neg (by simp; omega)]
        simp [opn]
        omega
theorem deep_len : ∀ bs : List Bool, (opn bs).length ≤ 5 * bs.length ∧ (shut bs).length = bs.length
  | [] => by simp [opn, shut]
  | b :: bs => by
    have := deep_len bs
    simp only [opn, shut, List.length_append, List.length_cons, List.length_nil]
    refine ⟨?_, by omega⟩
    split <;> simp <;> omega
theorem deep_parse (bs : List Bool) (hb : bs.length ≤ 200) : parse (deepText bs) = if bs.length ≤ 64 then (nest bs, 0, 0) else (JV.null, (opn (bs.take 64)).length, 31) := by
  have hl := deep_len bs
  have hlen : (deepText bs).length = (opn bs).length + 1 + bs.length := by simp only [deepText, List.length_append, List.length_cons, hl.2]; omega
  obtain ⟨c, r, hc, hbl, hcc⟩ := deepText_head bs []
  have hb0 : blanks (deepText bs) 0 = 0 := blanks_none (fun c' hc' => by rw [List.drop_zero, ← List.append_nil (deepText bs), hc] at hc'; cases hc'; exact hbl)
  have hv := deep_value bs 64 0 [] (l := deepText bs) (by simp) (fun c hc => by simp at hc)
  unfold parse
  rw [if_neg (by omega), hb0, hv]
  by_cases hd' : bs.length ≤ 64
  · rw [if_pos hd', if_pos hd']
    simp only
    have hbe : blanks (deepText bs) (0 + (deepText bs).length) = 0 + (deepText bs).length := blanks_none (fun c' hc' => by simp at hc')
    rw [hbe, if_neg (by omega)]
  · rw [if_neg hd', if_neg hd']
    simp
theorem opn_append (a b : List Bool) : opn (a ++ b) = opn a ++ opn b := by
  induction a with
  | nil => rfl
  | cons x a ih => simp [opn, ih]
theorem shut_append (a b : List Bool) : shut (a ++ b) = shut b ++ shut a := by
  induction a with
  | nil => simp [shut]
  | cons x a ih => simp [shut, ih]
end Js
end Go.Proofs.YtgnobnbbjekgnaaDoor
