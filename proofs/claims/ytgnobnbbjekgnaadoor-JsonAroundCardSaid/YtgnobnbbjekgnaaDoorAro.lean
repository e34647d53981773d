import Derived.Test.YtgnobnbbjekgnaaDoorExu
import Derived.Test.YtgnobnbbjekgnaaDoorDeep
/- Plain Lean: blanks around a text; a text in brackets, in braces. -/
namespace Go.Proofs.YtgnobnbbjekgnaaDoor
set_option linter.unusedVariables false
namespace Js

theorem parse_of_ok {l : List UInt8} {v : JV} {j : Nat} (hl : l.length ≤ 262144) (h : value l 64 (blanks l 0) = .ok (v, j)) (hb : ¬ blanks l j < l.length) : parse l = (v, 0, 0) := by
  unfold parse
  rw [if_neg (by omega), h]
  simp only
  rw [if_neg hb]
theorem parse_ok {l : List UInt8} (hl : l.length ≤ 262144) (h : (parse l).2.2 = 0) : ∃ v j, value l 64 (blanks l 0) = .ok (v, j) ∧ j ≤ l.length ∧ blanks l j = l.length ∧ parse l = (v, 0, 0) := by
  have hb0 := blanks_bd (l := l) (i := 0) (by omega)
  have hB := (value_bd l 64).1 _ hb0.2
  rcases hx : value l 64 (blanks l 0) with ⟨p, e⟩ | ⟨v, j⟩
  · exfalso
    rw [hx] at hB
    have hp : parse l = (JV.null, p, e) := by unfold parse; rw [if_neg (by omega), hx]
    rw [hp] at h
    have h : e = 0 := h
    rcases hB.2.2 with h' | h' <;> omega
  · rw [hx] at hB
    have hj := blanks_bd hB.2
    by_cases hlt : blanks l j < l.length
    · exfalso
      have hp : parse l = (JV.null, blanks l j, 30) := by unfold parse; rw [if_neg (by omega), hx]; simp only; rw [if_pos hlt]
      rw [hp] at h
      have h : (30 : Int) = 0 := h
      omega
    · exact ⟨v, j, rfl, hB.2, by omega, parse_of_ok hl hx hlt⟩
theorem tw_all {f : UInt8 → Bool} : ∀ (L : List UInt8), (∀ c ∈ L, f c = true) → (L.takeWhile f).length = L.length
  | [], _ => rfl
  | a :: r, h => by
    rw [List.takeWhile_cons, if_pos (h a (by simp)), List.length_cons, tw_all r (fun c hc => h c (by simp [hc])), List.length_cons]
theorem tw_full {f : UInt8 → Bool} : ∀ (L : List UInt8), (L.takeWhile f).length = L.length → ∀ c ∈ L, f c = true
  | [], _, c, hc => by cases hc
  | a :: r, h, c, hc => by
    rw [List.takeWhile_cons] at h
    split at h
    · rename_i ha
      rcases List.mem_cons.1 hc with rfl | hc
      · exact ha
      · exact tw_full r (by simpa using h) c hc
    · simp at h
theorem tw_append {f : UInt8 → Bool} : ∀ (L M : List UInt8), (∀ c ∈ L, f c = true) → ((L ++ M).takeWhile f).length = L.length + (M.takeWhile f).length
  | [], M, _ => by simp
  | a :: r, M, h => by
    rw [List.cons_append, List.takeWhile_cons, if_pos (h a (by simp)), List.length_cons, tw_append r M (fun c hc => h c (by simp [hc])), List.length_cons]
    omega
/-- A value that is read is read behind what stands ahead, whatever stands behind, at most one level being lost. -/
theorem value_in {s pre post : List UInt8} {d i j : Nat} {v : JV} (hh : Halts (hd post 0)) (h : value s (d + 1) i = .ok (v, j)) :
    (value (pre ++ (s ++ post)) d (pre.length + i) = .ok (v, pre.length + j)) ∨ ∃ q, value (pre ++ (s ++ post)) d (pre.length + i) = .error (q, 31) := by
  have ht : (s ++ post).take s.length = s := by simp
  have hd0 : hd (s ++ post) s.length = hd post 0 := by
    have := hd_sft s post 0
    rw [Nat.add_zero] at this
    exact this
  have hx := (value_ext (l := s ++ post) (p := s.length) (by rw [hd0]; exact hh) d).1 i
  rw [ht] at hx
  rcases value_less s d i v j h with h' | ⟨q, h'⟩
  · left
    rw [value_sft pre (s ++ post) d i, hx.1 v j h']; rfl
  · right
    rw [value_sft pre (s ++ post) d i, hx.2 q h']
    exact ⟨_, rfl⟩
theorem value_in' {s pre post : List UInt8} {d i j : Nat} {v : JV} (hh : Halts (hd post 0)) (h : value s d i = .ok (v, j)) : value (pre ++ (s ++ post)) d (pre.length + i) = .ok (v, pre.length + j) := by
  have ht : (s ++ post).take s.length = s := by simp
  have hd0 : hd (s ++ post) s.length = hd post 0 := by
    have := hd_sft s post 0
    rw [Nat.add_zero] at this
    exact this
  have hx := (value_ext (l := s ++ post) (p := s.length) (by rw [hd0]; exact hh) d).1 i
  rw [ht] at hx
  rw [value_sft pre (s ++ post) d i, hx.1 v j h]; rfl
/-- Blanks within what stands between. -/
theorem blanks_in {s pre post : List UInt8} {i : Nat} (h : blanks s i < s.length) : blanks (pre ++ (s ++ post)) (pre.length + i) = pre.length + blanks s i := by
  rw [blanks_sft]
  have ht : (s ++ post).take s.length = s := by simp
  have := blanks_ext (l := s ++ post) (p := s.length) (k := i) (by rw [ht]; exact h)
  rw [ht] at this
  rw [this]
theorem blanks_end {s pre post : List UInt8} {i : Nat} (hi : i ≤ s.length) (h : blanks s i = s.length) (hp : ∀ c, c ∈ post.head? → isBlank c = false) : blanks (pre ++ (s ++ post)) (pre.length + i) = pre.length + s.length := by
  rw [blanks_sft]
  congr 1
  unfold blanks at h ⊢
  rw [List.drop_append_of_le_length hi]
  have hl : ((s.drop i).takeWhile isBlank).length = (s.drop i).length := by rw [List.length_drop]; omega
  rw [tw_append _ _ (tw_full _ hl)]
  have hz : post.takeWhile isBlank = [] := by
    rcases post with _ | ⟨c, r⟩
    · rfl
    · rw [List.takeWhile_cons, if_neg (by rw [hp c (by simp)]; simp)]
  rw [hz, List.length_drop]
  simp
  omega
theorem value_start {s : List UInt8} {d i j : Nat} {v : JV} (h : value s d i = .ok (v, j)) : i < s.length := ((value_bd s d).2 i v j h).2

/-! ### Blanks around -/
def spaced (s : List UInt8) : List UInt8 := [10, 32, 9] ++ (s ++ [13, 32])
theorem spaced_fine {s : List UInt8} (hs : s.length ≤ 200000) (h : (parse s).2.2 = 0) : parse (spaced s) = parse s := by
  obtain ⟨v, j, hv, hj, hb, hp⟩ := parse_ok (by omega) h
  rw [hp]
  have h0 := value_start hv
  have hlen : (spaced s).length = s.length + 5 := by simp [spaced]
  have b0 : blanks (spaced s) 0 = 3 + blanks s 0 := by
    have h3 : blanks (spaced s) 0 = blanks (spaced s) 3 := by
      unfold blanks spaced
      simp [isBlank]
      omega
    rw [h3]
    exact blanks_in (pre := [10, 32, 9]) (post := [13, 32]) (i := 0) h0
  have hv2 := value_in' (pre := [10, 32, 9]) (post := [13, 32]) (by unfold Halts hd; decide) hv
  refine parse_of_ok (j := 3 + j) (by omega) (by rw [b0]; exact hv2) ?_
  have : blanks (spaced s) (3 + j) = s.length + 5 := by
    show blanks ([10, 32, 9] ++ (s ++ [13, 32])) (([10, 32, 9] : List UInt8).length + j) = _
    rw [blanks_sft]
    unfold blanks at hb ⊢
    rw [List.drop_append_of_le_length hj]
    have hl : ((s.drop j).takeWhile isBlank).length = (s.drop j).length := by rw [List.length_drop]; omega
    rw [tw_append _ _ (tw_full _ hl), List.length_drop]
    have : ([13, 32] : List UInt8).takeWhile isBlank = [13, 32] := by decide
    rw [this]
    simp
    omega
  omega
theorem spaced_back {s : List UInt8} (hs : s.length ≤ 200000) (h : (parse (spaced s)).2.2 = 0) : (parse s).2.2 = 0 := by
  have hlen : (spaced s).length = s.length + 5 := by simp [spaced]
  obtain ⟨v, j, hv, hj, hb, hp⟩ := parse_ok (by omega) h
  obtain ⟨k, rfl, hk⟩ := value_last hv
  -- the value ends within s
  have hk3 : 3 ≤ blanks (spaced s) 0 := by
    unfold blanks spaced
    simp [isBlank]
  have hik := ((value_bd (spaced s) 64).2 _ _ _ hv).1
  have hks : k < 3 + s.length := by
    rcases Nat.lt_or_ge k (3 + s.length) with h' | h'
    · exact h'
    · exfalso
      obtain ⟨q, hq⟩ : ∃ q, k = ([10, 32, 9] : List UInt8).length + (s.length + q) := ⟨k - 3 - s.length, by simp; omega⟩
      have e := hd_sft [10, 32, 9] (s ++ [13, 32]) (s.length + q)
      rw [← hq] at e
      have e2 := hd_sft s [13, 32] q
      rw [e2] at e
      have e3 : hd (spaced s) k = hd [13, 32] q := e
      rw [e3] at hk
      unfold hd at hk
      have : ([13, 32] : List UInt8).getD q 0 = 13 ∨ ([13, 32] : List UInt8).getD q 0 = 32 ∨ ([13, 32] : List UInt8).getD q 0 = 0 := by
        rcases q with _ | _ | q
        · exact .inl rfl
        · exact .inr (.inl rfl)
        · exact .inr (.inr rfl)
      rcases this with h' | h' | h' <;> (rw [h'] at hk; exact absurd hk (by decide))
  have ht : (spaced s).take (3 + s.length) = [10, 32, 9] ++ s := by
    unfold spaced
    rw [show 3 + s.length = ([10, 32, 9] : List UInt8).length + s.length from rfl, List.take_length_add_append]
    simp
  have hc := ((value_cut (spaced s) (3 + s.length) 64 (blanks (spaced s) 0)).1 v (k + 1) hv).2 (by omega)
  rw [ht] at hc
  obtain ⟨i, hi⟩ : ∃ i, blanks (spaced s) 0 = ([10, 32, 9] : List UInt8).length + i := ⟨blanks (spaced s) 0 - 3, by simp; omega⟩
  rw [hi, value_sft] at hc
  have hb0 : i = blanks s 0 := by
    have h3 : blanks (spaced s) 0 = blanks (spaced s) 3 := by
      unfold blanks spaced
      simp [isBlank]
      omega
    have h4 : blanks (spaced s) 3 = 3 + blanks (s ++ [13, 32]) 0 := blanks_sft [10, 32, 9] (s ++ [13, 32]) 0
    have h5 : i = blanks (s ++ [13, 32]) 0 := by simp at hi; omega
    have h6 : i < s.length := by simp at hi; omega
    have ht2 : (s ++ [13, 32]).take s.length = s := by simp
    have := blanks_cut (l := s ++ [13, 32]) (i := 0) (p := s.length) (by omega)
    rw [ht2] at this
    omega
  subst hb0
  rcases hx : value s 64 (blanks s 0) with ⟨a, e⟩ | ⟨v2, j2⟩
  · rw [hx] at hc; cases hc
  rw [hx] at hc
  simp only [sftR] at hc
  have hj2 : 3 + j2 = k + 1 ∧ v2 = v := by
    have := Except.ok.inj hc
    have h1 := (Prod.mk.inj this).1
    have h2 := (Prod.mk.inj this).2
    simp at h2
    exact ⟨by omega, h1⟩
  have hbs : blanks s j2 = s.length := by
    have e := blanks_sft [10, 32, 9] (s ++ [13, 32]) j2
    have e2 : blanks (spaced s) (k + 1) = 3 + blanks (s ++ [13, 32]) j2 := by
      have : k + 1 = ([10, 32, 9] : List UInt8).length + j2 := by simp; omega
      rw [this]; exact e
    rw [hb, hlen] at e2
    have hfull : blanks (s ++ [13, 32]) j2 = s.length + 2 := by omega
    unfold blanks at hfull ⊢
    rw [List.drop_append_of_le_length (by omega)] at hfull
    have hall : ((s.drop j2 ++ [13, 32]).takeWhile isBlank).length = (s.drop j2 ++ [13, 32]).length := by
      rw [List.length_append, List.length_drop]; simp; omega
    have := tw_full _ hall
    rw [tw_all (s.drop j2) (fun c hc => this c (List.mem_append_left _ hc)), List.length_drop]
    omega
  have := parse_of_ok (by omega) hx (by omega)
  rw [this]

/-! ### In brackets, in braces -/
def inList (s : List UInt8) : List UInt8 := [91, 32, 49, 32, 44] ++ (s ++ [93])
def inObj (s : List UInt8) : List UInt8 := [123, 34, 107, 34, 32, 58] ++ (s ++ ([44, 32, 34, 107, 34, 58] ++ (s ++ [125])))
theorem one_leaf {l r : List UInt8} {d i : Nat} (h : l.drop i = 49 :: 32 :: r) : value l d i = .ok (.mk 3 ⟨#[49]⟩ [] [], i + 1) := by
  obtain ⟨h1, h2, h3⟩ := at_drop h
  obtain ⟨h4, _, _⟩ := at_drop h2
  have h1 : hd l i = 49 := h1
  have hn : hd l (i + 1) = 32 := h4
  have hm : numMinus l i = i := by unfold numMinus; rw [if_neg (by omega)]
  have hde : digitsEnd l i = i + 1 := by
    unfold digitsEnd
    rw [h]
    rfl
  have hw : numWhole l i = .ok (i + 1) := by
    unfold numWhole digits
    rw [if_neg (by omega), if_pos (by omega), hde]
  have hf : numFrac l (i + 1) = .ok (i + 1) := by unfold numFrac; rw [if_neg (by omega)]
  have hx : numExp l (i + 1) = .ok (i + 1) := by unfold numExp; rw [if_neg (by omega)]
  have hnum : number l i = .ok (i + 1) := by
    unfold number
    rw [hm, hw]
    simp only
    rw [hf]
    simp only
    rw [hx]
  rw [value_leaf (by omega) (by omega), if_neg (by omega), if_neg (by omega), if_neg (by omega), if_neg (by omega), hnum]
  simp only
  rw [h, show i + 1 - i = 1 by omega]
  rfl
theorem str_k {l r : List UInt8} {i : Nat} (h : l.drop i = 34 :: 107 :: 34 :: r) : str l i = .ok ([107], i + 3) := by
  obtain ⟨h1, h2, h3⟩ := at_drop h
  obtain ⟨h4, h5, h6⟩ := at_drop h2
  obtain ⟨h7, h8, h9⟩ := at_drop h5
  have h4 : hd l (i + 1) = 107 := h4
  have h7 : hd l (i + 1 + 1) = 34 := h7
  have hdec : dec l (i + 1) = (107, 1) := by unfold dec Lib.decodeN; rw [h4]; rfl
  have hw : whole l (i + 1) = true := whole_iff.2 ⟨h6, by rw [hdec]; decide⟩
  unfold str
  obtain ⟨m, hm⟩ : ∃ m, l.length + 1 = m + 1 + 1 := ⟨l.length - 1, by omega⟩
  rw [hm]
  simp only [text]
  rw [if_neg (by omega), if_neg (by omega), if_neg (by omega), hw, if_pos rfl, hdec]
  simp only
  rw [h7, if_pos rfl, h2]
  rfl
/-- What JsonAround asks of the answers. -/
def Within (s : List UInt8) (v : JV) : Prop :=
  (parse (inList s) = (.mk 5 ⟨#[]⟩ [.mk 3 ⟨#[49]⟩ [] [], v] [], 0, 0) ∧ parse (inObj s) = (.mk 6 ⟨#[]⟩ [] [(⟨#[107]⟩, v)], 0, 0)) ∨
  ((parse (inList s)).2.2 = 31 ∧ (parse (inObj s)).2.2 = 31 ∧ (parse (inList s)).1 = JV.null ∧ (parse (inObj s)).1 = JV.null)
theorem within_all {s : List UInt8} (hs : s.length ≤ 100000) (h : (parse s).2.2 = 0) : Within s (parse s).1 := by
  obtain ⟨v, j, hv, hj, hb, hp⟩ := parse_ok (by omega) h
  rw [hp]
  have h0 := value_start hv
  have hnb : ∀ {r : List UInt8} {c : UInt8}, isBlank c = false → ∀ c', c' ∈ (c :: r).head? → isBlank c' = false := fun h c' hc => by cases hc; exact h
  -- the list
  have hLd : inList s = 91 :: 32 :: 49 :: 32 :: 44 :: (s ++ [93]) := rfl
  have hLl : (inList s).length = s.length + 6 := by simp [inList]
  have lb0 : blanks (inList s) 0 = 0 := blanks_none (by rw [hLd]; exact hnb rfl)
  have l0 : hd (inList s) 0 = 91 := rfl
  have lb1 : blanks (inList s) 1 = 2 := by
    unfold blanks; rw [hLd]; rfl
  have l2 : hd (inList s) 2 = 49 := rfl
  have lv2 : ∀ d, value (inList s) d 2 = .ok (.mk 3 ⟨#[49]⟩ [] [], 3) := fun d => one_leaf (r := 44 :: (s ++ [93])) rfl
  have lb3 : blanks (inList s) 3 = 4 := by
    unfold blanks; rw [hLd]; rfl
  have l4 : hd (inList s) 4 = 44 := rfl
  have lb5 : blanks (inList s) 5 = 5 + blanks s 0 := blanks_in (pre := [91, 32, 49, 32, 44]) (post := [93]) (i := 0) h0
  have lend : blanks (inList s) (5 + j) = 5 + s.length := blanks_end (pre := [91, 32, 49, 32, 44]) (post := [93]) hj hb (hnb rfl)
  have lv := value_in (pre := [91, 32, 49, 32, 44]) (post := [93]) (d := 63) (by unfold Halts hd; decide) hv
  have lv : value (inList s) 63 (5 + blanks s 0) = .ok (v, 5 + j) ∨ ∃ q, value (inList s) 63 (5 + blanks s 0) = .error (q, 31) := lv
  have l93 : hd (inList s) (5 + s.length) = 93 := by
    have e := hd_sft [91, 32, 49, 32, 44] (s ++ [93]) (s.length + 0)
    rw [hd_sft s [93] 0] at e
    exact e
  obtain ⟨m, hm⟩ : ∃ m, (inList s).length + 1 = m + 1 + 1 + 1 := ⟨s.length + 4, by omega⟩
  -- the object
  have hOd : inObj s = 123 :: 34 :: 107 :: 34 :: 32 :: 58 :: (s ++ ([44, 32, 34, 107, 34, 58] ++ (s ++ [125]))) := rfl
  have hOl : (inObj s).length = 2 * s.length + 13 := by simp [inObj]; omega
  have ob0 : blanks (inObj s) 0 = 0 := blanks_none (by rw [hOd]; exact hnb rfl)
  have o0 : hd (inObj s) 0 = 123 := rfl
  have ob1 : blanks (inObj s) 1 = 1 := blanks_none (by rw [hOd]; exact hnb rfl)
  have o1 : hd (inObj s) 1 = 34 := rfl
  have os1 : str (inObj s) 1 = .ok ([107], 4) := str_k (r := 32 :: 58 :: (s ++ ([44, 32, 34, 107, 34, 58] ++ (s ++ [125])))) rfl
  have ob4 : blanks (inObj s) 4 = 5 := by
    unfold blanks; rw [hOd]; rfl
  have o5 : hd (inObj s) 5 = 58 := rfl
  have ob6 : blanks (inObj s) 6 = 6 + blanks s 0 := blanks_in (pre := [123, 34, 107, 34, 32, 58]) (post := [44, 32, 34, 107, 34, 58] ++ (s ++ [125])) (i := 0) h0
  have oend1 : blanks (inObj s) (6 + j) = 6 + s.length := blanks_end (pre := [123, 34, 107, 34, 32, 58]) (post := [44, 32, 34, 107, 34, 58] ++ (s ++ [125])) hj hb (hnb rfl)
  have ov1 := value_in (pre := [123, 34, 107, 34, 32, 58]) (post := [44, 32, 34, 107, 34, 58] ++ (s ++ [125])) (d := 63) (by show Halts 44; unfold Halts; decide) hv
  have ov1 : value (inObj s) 63 (6 + blanks s 0) = .ok (v, 6 + j) ∨ ∃ q, value (inObj s) 63 (6 + blanks s 0) = .error (q, 31) := ov1
  obtain ⟨m2, hm2⟩ : ∃ m2, (inObj s).length + 1 = m2 + 1 + 1 + 1 := ⟨2 * s.length + 11, by omega⟩
  -- behind the first field
  have hO2 : inObj s = ([123, 34, 107, 34, 32, 58] ++ (s ++ [44, 32, 34, 107, 34, 58])) ++ (s ++ [125]) := by simp [inObj]
  have hpl : ([123, 34, 107, 34, 32, 58] ++ (s ++ [44, 32, 34, 107, 34, 58])).length = 12 + s.length := by simp; omega
  have od : (inObj s).drop (6 + s.length) = 44 :: 32 :: 34 :: 107 :: 34 :: 58 :: (s ++ [125]) := by
    have e := drop_sft [123, 34, 107, 34, 32, 58] (s ++ ([44, 32, 34, 107, 34, 58] ++ (s ++ [125]))) (s.length + 0)
    rw [drop_sft s _ 0] at e
    exact e
  obtain ⟨a1, a2, a3⟩ := at_drop od
  obtain ⟨b1, b2, b3⟩ := at_drop a2
  have a1 : hd (inObj s) (6 + s.length) = 44 := a1
  have ob7 : blanks (inObj s) (6 + s.length + 1) = 6 + s.length + 2 := by
    unfold blanks
    rw [a2]; rfl
  have b2 : (inObj s).drop (6 + s.length + 2) = 34 :: 107 :: 34 :: 58 :: (s ++ [125]) := b2
  obtain ⟨c1, _, _⟩ := at_drop b2
  have c1 : hd (inObj s) (6 + s.length + 2) = 34 := c1
  have os2 : str (inObj s) (6 + s.length + 2) = .ok ([107], 6 + s.length + 5) := str_k b2
  have d2 : (inObj s).drop (6 + s.length + 5) = 58 :: (s ++ [125]) := by
    have := congrArg (List.drop 3) b2
    rw [List.drop_drop] at this
    exact this
  obtain ⟨e1, _, _⟩ := at_drop d2
  have e1 : hd (inObj s) (6 + s.length + 5) = 58 := e1
  have ob8 : blanks (inObj s) (6 + s.length + 5) = 6 + s.length + 5 := blanks_none (by rw [d2]; exact hnb rfl)
  have ob9 : blanks (inObj s) (12 + s.length) = 12 + s.length + blanks s 0 := by
    have := blanks_in (pre := [123, 34, 107, 34, 32, 58] ++ (s ++ [44, 32, 34, 107, 34, 58])) (post := [125]) (i := 0) h0
    rw [← hO2, hpl] at this
    exact this
  have oend2 : blanks (inObj s) (12 + s.length + j) = 12 + s.length + s.length := by
    have := blanks_end (pre := [123, 34, 107, 34, 32, 58] ++ (s ++ [44, 32, 34, 107, 34, 58])) (post := [125]) hj hb (hnb rfl)
    rw [← hO2, hpl] at this
    exact this
  have o125 : hd (inObj s) (12 + s.length + s.length) = 125 := by
    have e := hd_sft ([123, 34, 107, 34, 32, 58] ++ (s ++ [44, 32, 34, 107, 34, 58])) (s ++ [125]) (s.length + 0)
    rw [hd_sft s [125] 0, ← hO2, hpl] at e
    exact e
  have ov2 : value s 63 (blanks s 0) = .ok (v, j) → value (inObj s) 63 (12 + s.length + blanks s 0) = .ok (v, 12 + s.length + j) := fun h => by
    have := value_in' (pre := [123, 34, 107, 34, 32, 58] ++ (s ++ [44, 32, 34, 107, 34, 58])) (post := [125]) (by unfold Halts hd; decide) h
    rw [← hO2, hpl] at this
    exact this
  have f1 : ∀ r, value (inObj s) 63 (6 + blanks s 0) = r → field (inObj s) (value (inObj s) 63) 1 = match r with
      | .error e => .error e
      | .ok (v, m) => .ok ((⟨#[107]⟩, v), m) := fun r hr => by
    unfold field
    rw [if_pos o1, os1]
    simp only
    rw [ob4]
    simp only [word]
    rw [if_pos o5]
    simp only
    rw [ob6, hr]
    rfl
  have ostep : ∀ n, objL (inObj s) (value (inObj s) 63) (n + 1) true 1 [] = match value (inObj s) 63 (6 + blanks s 0) with
      | .error e => .error e
      | .ok (v, m) => objL (inObj s) (value (inObj s) 63) n false (blanks (inObj s) m) (put ⟨#[107]⟩ v []) := fun n => by
    rw [objL, o1, if_neg (by decide)]
    simp only [comma, if_true]
    rw [f1 _ rfl]
    rcases value (inObj s) 63 (6 + blanks s 0) with e | ⟨v, m⟩ <;> rfl
  have lc4 : comma (inList s) false 4 = .ok (5 + blanks s 0) := by
    unfold comma
    rw [if_neg (by decide)]
    simp only [word]
    rw [if_pos l4]
    simp only
    rw [lb5]
  have lstep2 : ∀ n, listL (inList s) (value (inList s) 63) (n + 1) 4 [.mk 3 ⟨#[49]⟩ [] []] = match value (inList s) 63 (5 + blanks s 0) with
      | .error e => .error e
      | .ok (v, m) => listL (inList s) (value (inList s) 63) n (blanks (inList s) m) [.mk 3 ⟨#[49]⟩ [] [], v] := fun n => by
    rw [listL, l4, if_neg (by decide), show ([JV.mk 3 ⟨#[49]⟩ [] []] : List JV).isEmpty = false from rfl, lc4]
    simp only
    rcases value (inList s) 63 (5 + blanks s 0) with e | ⟨v, m⟩ <;> rfl
  have lstep : ∀ n, listL (inList s) (value (inList s) 63) (n + 1 + 1) 2 [] = match value (inList s) 63 (5 + blanks s 0) with
      | .error e => .error e
      | .ok (v, m) => listL (inList s) (value (inList s) 63) n (blanks (inList s) m) [.mk 3 ⟨#[49]⟩ [] [], v] := fun n => by
    rw [listL, l2, if_neg (by decide)]
    simp only [comma, List.isEmpty_nil, if_true]
    rw [lv2]
    simp only
    rw [lb3]
    exact lstep2 n
  rcases value_less s 63 _ v j hv with h63 | ⟨q63, h63⟩
  · left
    have lv : value (inList s) 63 (5 + blanks s 0) = .ok (v, 5 + j) := value_in' (pre := [91, 32, 49, 32, 44]) (post := [93]) (by unfold Halts hd; decide) h63
    have ov : value (inObj s) 63 (6 + blanks s 0) = .ok (v, 6 + j) := value_in' (pre := [123, 34, 107, 34, 32, 58]) (post := [44, 32, 34, 107, 34, 58] ++ (s ++ [125])) (by show Halts 44; unfold Halts; decide) h63
    constructor
    · refine parse_of_ok (j := 6 + s.length) (by omega) ?_ ?_
      · rw [lb0, value_list l0, lb1, hm, lstep, lv]
        simp only
        rw [lend, listL, if_pos l93]
        simp only
        rw [show 5 + s.length + 1 = 6 + s.length by omega]
      · have := blanks_bd (l := inList s) (i := 6 + s.length) (by omega)
        omega
    · have oc : comma (inObj s) false (6 + s.length) = .ok (6 + s.length + 2) := by
        unfold comma
        rw [if_neg (by decide)]
        simp only [word]
        rw [if_pos a1]
        simp only
        rw [ob7]
      have f2 : field (inObj s) (value (inObj s) 63) (6 + s.length + 2) = .ok ((⟨#[107]⟩, v), 12 + s.length + j) := by
        unfold field
        rw [if_pos c1, os2]
        simp only
        rw [ob8]
        simp only [word]
        rw [if_pos e1]
        simp only
        rw [show 6 + s.length + 5 + 1 = 12 + s.length by omega, ob9, ov2 h63]
      refine parse_of_ok (j := 13 + s.length + s.length) (by omega) ?_ ?_
      · rw [ob0, value_obj o0, ob1, hm2, ostep, ov]
        simp only
        rw [oend1, objL, a1, if_neg (by decide), oc]
        simp only
        rw [f2]
        simp only
        rw [oend2, objL, if_pos o125]
        simp only [put, if_true]
        rw [show 12 + s.length + s.length + 1 = 13 + s.length + s.length by omega]
      · have := blanks_bd (l := inObj s) (i := 13 + s.length + s.length) (by omega)
        omega
  · right
    have hE : ∀ pre post, Halts (hd post 0) → value (pre ++ (s ++ post)) 63 (pre.length + blanks s 0) = .error (pre.length + q63, 31) := fun pre post hh => by
      have ht : (s ++ post).take s.length = s := by simp
      have hd0 : hd (s ++ post) s.length = hd post 0 := by
        have := hd_sft s post 0
        rw [Nat.add_zero] at this
        exact this
      have hx := (value_ext (l := s ++ post) (p := s.length) (by rw [hd0]; exact hh) 63).1 (blanks s 0)
      rw [ht] at hx
      rw [value_sft pre (s ++ post) 63, hx.2 q63 h63]; rfl
    have lv : value (inList s) 63 (5 + blanks s 0) = .error (5 + q63, 31) := hE [91, 32, 49, 32, 44] [93] (by unfold Halts hd; decide)
    have ov : value (inObj s) 63 (6 + blanks s 0) = .error (6 + q63, 31) := hE [123, 34, 107, 34, 32, 58] ([44, 32, 34, 107, 34, 58] ++ (s ++ [125])) (by show Halts 44; unfold Halts; decide)
    have pL : parse (inList s) = (JV.null, 5 + q63, 31) := by
      unfold parse
      rw [if_neg (by omega), lb0, value_list l0, lb1, hm, lstep, lv]
    have pO : parse (inObj s) = (JV.null, 6 + q63, 31) := by
      unfold parse
      rw [if_neg (by omega), ob0, value_obj o0, ob1, hm2, ostep, ov]
    rw [pL, pO]
    exact ⟨rfl, rfl, rfl, rfl⟩
end Js
end Go.Proofs.YtgnobnbbjekgnaaDoor
