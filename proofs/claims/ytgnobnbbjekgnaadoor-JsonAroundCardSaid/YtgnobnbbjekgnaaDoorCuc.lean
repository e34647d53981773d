import Derived.Test.YtgnobnbbjekgnaaDoorCub
/- Plain Lean: a text cut off at the place where its reading stops: the law. -/
namespace Go.Proofs.YtgnobnbbjekgnaaDoor
set_option linter.unusedVariables false
namespace Js

theorem CutPl.toAt {α : Type} {f f' : Except (Nat × Int) Nat} {r r' : R α} {i p : Nat} (h : CutPl f f' i p) (hok : ∀ j, f = .ok j → ∃ g, CutAt r g j p ∧ (f' = .ok j → r' = g)) (her : ∀ x, f = .error x → r = .error x ∧ (f' = .error (p, 30) → r' = .error (p, 30))) : CutAt r r' i p := by
  rcases hf : f with e | j
  · exact h.err hf (her e hf).1 (her e hf).2
  · obtain ⟨g, hg, hr⟩ := hok j hf
    exact h.next hf hg hr
theorem comma_cut (l : List UInt8) (p : Nat) (first : Bool) (i : Nat) : CutPl (comma l first i) (comma (l.take p) first i) i p := by
  unfold comma
  by_cases h : first = true
  · rw [if_pos h, if_pos h]; exact CutPl.ok (Nat.le_refl _)
  rw [if_neg h, if_neg h]
  have hw := word_cut l p [44] i (by simp)
  rcases hx : word l [44] i with e | j
  · exact hw.err' hx rfl (fun e => by rw [e])
  · refine hw.next' hx (g' := .ok (blanks (l.take p) j)) ?_ (fun e => by rw [e])
    simp only
    have hj : j ≤ blanks l j := by unfold blanks; omega
    refine ⟨fun k e => ?_, fun e he => by cases he⟩
    cases e
    exact ⟨hj, fun hp => by rw [blanks_cut hp]⟩
/-- A reading of values, and that of the text cut at p. -/
def ValCut (val val' : Nat → R JV) (p : Nat) : Prop := ∀ i, CutAt (val i) (val' i) i p
theorem listL_cut (l : List UInt8) (p : Nat) {val val' : Nat → R JV} (hv : ValCut val val' p) (hb : ValBd l val) : ∀ (n n' i : Nat) (acc : List JV), 0 < n → 0 < n' → l.length < n + i → (l.take p).length < n' + i → CutAt (listL l val n i acc) (listL (l.take p) val' n' i acc) i p
  | 0, n', i, acc, h, _, _, _ => by omega
  | n + 1, 0, i, acc, _, h, _, _ => by omega
  | n + 1, n' + 1, i, acc, _, _, hn, hn' => by
    simp only [listL]
    by_cases h93 : hd l i = 93
    · rw [if_pos h93]
      exact CutAt.one (by omega) (fun hp => by rw [hd_take (by omega), if_pos h93])
    rw [if_neg h93, if_neg (hd_take_ne h93 (by decide))]
    have hc := comma_cut l p acc.isEmpty i
    rcases hx : comma l acc.isEmpty i with e | j
    · exact hc.err hx rfl (fun e => by rw [e])
    refine hc.next hx (g' := match val' j with
        | .error e => .error e
        | .ok (v, k) => listL (l.take p) val' n' (blanks (l.take p) k) (acc ++ [v])) ?_ (fun e => by rw [e]; rfl)
    simp only
    have hvj := hv j
    rcases hy : val j with e | ⟨v, k⟩
    · exact hvj.err hy rfl (fun e => by rw [e])
    have hlt := hb.2 j v k hy
    have hcj := (hc.1 j hx).1
    refine hvj.next hy (g' := listL (l.take p) val' n' (blanks (l.take p) k) (acc ++ [v])) ?_ (fun e => by rw [e])
    simp only
    have hbk : k ≤ blanks l k := by unfold blanks; omega
    have hlp : (l.take p).length = min p l.length := List.length_take
    rcases Nat.lt_or_ge p (blanks l k) with hpk | hpk
    · exact CutAt.shift (listL_cut l p hv hb n (l.length + 2) (blanks l k) (acc ++ [v]) (by omega) (by omega) (by omega) (by omega)) hbk (fun h => by omega)
    · refine CutAt.shift (listL_cut l p hv hb n n' (blanks l k) (acc ++ [v]) (by omega) (by omega) (by omega) (by omega)) hbk (fun h => by rw [blanks_cut hpk])
theorem field_cut (l : List UInt8) (p : Nat) {val val' : Nat → R JV} (hv : ValCut val val' p) (i : Nat) : CutAt (field l val i) (field (l.take p) val' i) i p := by
  unfold field
  by_cases h34 : hd l i = 34
  · rw [if_pos h34]
    refine CutAt.shift (j := i + 1) (f' := match str (l.take p) i with
      | .error e => .error e
      | .ok (n, j) => match word (l.take p) [58] (blanks (l.take p) j) with
        | .error e => .error e
        | .ok k => match val' (blanks (l.take p) k) with
          | .error e => .error e
          | .ok (v, m) => .ok ((⟨n.toArray⟩, v), m)) ?_ (by omega) (fun hp => by rw [hd_take (by omega), if_pos h34]; rfl)
    have hs := str_cut l p i
    rcases hx : str l i with e | ⟨n, j⟩
    · exact hs.err hx rfl (fun e => by rw [e])
    refine hs.next hx (g' := match word (l.take p) [58] (blanks (l.take p) j) with
        | .error e => .error e
        | .ok k => match val' (blanks (l.take p) k) with
          | .error e => .error e
          | .ok (v, m) => .ok ((⟨n.toArray⟩, v), m)) ?_ (fun e => by rw [e])
    simp only
    have hbj : j ≤ blanks l j := by unfold blanks; omega
    refine CutAt.shift (j := blanks l j) (f' := match word (l.take p) [58] (blanks l j) with
        | .error e => .error e
        | .ok k => match val' (blanks (l.take p) k) with
          | .error e => .error e
          | .ok (v, m) => .ok ((⟨n.toArray⟩, v), m)) ?_ hbj (fun hp => by rw [blanks_cut hp])
    have hw := word_cut l p [58] (blanks l j) (by simp)
    rcases hy : word l [58] (blanks l j) with e | k
    · exact hw.err hy rfl (fun e => by rw [e])
    refine hw.next hy (g' := match val' (blanks (l.take p) k) with
          | .error e => .error e
          | .ok (v, m) => .ok ((⟨n.toArray⟩, v), m)) ?_ (fun e => by rw [e])
    simp only
    have hbk : k ≤ blanks l k := by unfold blanks; omega
    refine CutAt.shift (j := blanks l k) (f' := match val' (blanks l k) with
          | .error e => .error e
          | .ok (v, m) => .ok ((⟨n.toArray⟩, v), m)) ?_ hbk (fun hp => by rw [blanks_cut hp])
    have hz' := hv (blanks l k)
    rcases hz : val (blanks l k) with e | ⟨v, m⟩
    · exact hz'.err hz rfl (fun e => by rw [e])
    exact hz'.next hz (g' := .ok ((⟨n.toArray⟩, v), m)) (CutAt.ok (Nat.le_refl _)) (fun e => by rw [e])
  · rw [if_neg h34]
    exact CutAt.stop (fun e => by subst e; rw [hd_at]; rfl)
theorem objL_cut (l : List UInt8) (p : Nat) {val val' : Nat → R JV} (hv : ValCut val val' p) (hb : ValBd l val) : ∀ (n n' : Nat) (first : Bool) (i : Nat) (acc : List (ByteArray × JV)), 0 < n → 0 < n' → l.length < n + i → (l.take p).length < n' + i → CutAt (objL l val n first i acc) (objL (l.take p) val' n' first i acc) i p
  | 0, n', first, i, acc, h, _, _, _ => by omega
  | n + 1, 0, first, i, acc, _, h, _, _ => by omega
  | n + 1, n' + 1, first, i, acc, _, _, hn, hn' => by
    simp only [objL]
    by_cases h93 : hd l i = 125
    · rw [if_pos h93]
      exact CutAt.one (by omega) (fun hp => by rw [hd_take (by omega), if_pos h93])
    rw [if_neg h93, if_neg (hd_take_ne h93 (by decide))]
    have hc := comma_cut l p first i
    rcases hx : comma l first i with e | j
    · exact hc.err hx rfl (fun e => by rw [e])
    refine hc.next hx (g' := match field (l.take p) val' j with
        | .error e => .error e
        | .ok ((nm, v), k) => objL (l.take p) val' n' false (blanks (l.take p) k) (put nm v acc)) ?_ (fun e => by rw [e]; rfl)
    simp only
    have hvj := field_cut l p hv j
    rcases hy : field l val j with e | ⟨⟨nm, v⟩, k⟩
    · exact hvj.err hy rfl (fun e => by rw [e])
    have hlt := field_lt hb hy
    have hcj := (hc.1 j hx).1
    refine hvj.next hy (g' := objL (l.take p) val' n' false (blanks (l.take p) k) (put nm v acc)) ?_ (fun e => by rw [e])
    simp only
    have hbk : k ≤ blanks l k := by unfold blanks; omega
    have hlp : (l.take p).length = min p l.length := List.length_take
    rcases Nat.lt_or_ge p (blanks l k) with hpk | hpk
    · exact CutAt.shift (objL_cut l p hv hb n (l.length + 2) false (blanks l k) (put nm v acc) (by omega) (by omega) (by omega) (by omega)) hbk (fun h => by omega)
    · refine CutAt.shift (objL_cut l p hv hb n n' false (blanks l k) (put nm v acc) (by omega) (by omega) (by omega) (by omega)) hbk (fun h => by rw [blanks_cut hpk])
theorem wordV_cut (l : List UInt8) (p : Nat) {c : Nat} {W : List Nat} {i : Nat} {u : JV} (hc : ∀ c ∈ W, 0 < c) (h : hd l i = c) : CutAt (wordV l (c :: W) i u) (wordV (l.take p) (c :: W) i u) (i + 1) p := by
  have hw := word_cut l p W (i + 1) hc
  have e : word l (c :: W) i = word l W (i + 1) := if_pos h
  refine CutAt.shift (j := i + 1) (f' := match word (l.take p) W (i + 1) with
    | .error e => .error e
    | .ok j => .ok (u, j)) ?_ (Nat.le_refl _) (fun hp => ?_)
  · unfold wordV
    rw [e]
    rcases hx : word l W (i + 1) with e | j
    · exact hw.err hx rfl (fun e => by rw [e])
    · exact hw.next hx (g' := .ok (u, j)) (CutAt.ok (Nat.le_refl _)) (fun e => by rw [e])
  · unfold wordV
    have e' : word (l.take p) (c :: W) i = word (l.take p) W (i + 1) := if_pos (hd_take_eq h (by omega))
    rw [e']
    rfl
theorem value_list {l : List UInt8} {d i : Nat} (h : hd l i = 91) : value l (d + 1) i = match listL l (value l d) (l.length + 1) (blanks l (i + 1)) [] with
        | .error e => .error e
        | .ok (xs, j) => .ok (.mk 5 ⟨#[]⟩ xs [], j) := by
  rw [value, if_neg (by omega), if_neg (by omega), if_neg (by omega), if_neg (by omega), if_pos h]
  rfl
theorem value_obj {l : List UInt8} {d i : Nat} (h : hd l i = 123) : value l (d + 1) i = match objL l (value l d) (l.length + 1) true (blanks l (i + 1)) [] with
        | .error e => .error e
        | .ok (xs, j) => .ok (.mk 6 ⟨#[]⟩ [] xs, j) := by
  rw [value, if_neg (by omega), if_neg (by omega), if_neg (by omega), if_neg (by omega), if_neg (by omega), if_pos h]
  rfl
theorem value_deep {l : List UInt8} {i : Nat} (h : hd l i = 91 ∨ hd l i = 123) : value l 0 i = .error (i, 31) := by
  rw [value, if_neg (by omega), if_neg (by omega), if_neg (by omega), if_neg (by omega)]
  rcases h with h | h
  · rw [if_pos h]
  · rw [if_neg (by omega), if_pos h]
theorem value_leaf {l : List UInt8} {d i : Nat} (h1 : hd l i ≠ 91) (h2 : hd l i ≠ 123) : value l d i =
    if hd l i = 110 then wordV l [110, 117, 108, 108] i (.mk 0 ⟨#[]⟩ [] [])
    else if hd l i = 116 then wordV l [116, 114, 117, 101] i (.mk 2 ⟨#[]⟩ [] [])
    else if hd l i = 102 then wordV l [102, 97, 108, 115, 101] i (.mk 1 ⟨#[]⟩ [] [])
    else if hd l i = 34 then
      match str l i with
      | .error e => .error e
      | .ok (t, j) => .ok (.mk 4 ⟨t.toArray⟩ [] [], j)
    else match number l i with
      | .error e => .error e
      | .ok j => .ok (.mk 3 ⟨((l.drop i).take (j - i)).toArray⟩ [] [], j) := by
  unfold value
  rw [if_neg h1, if_neg h2]
  rfl
theorem leaf_cut (l : List UInt8) (p d i : Nat) (h1 : hd l i ≠ 91) (h2 : hd l i ≠ 123) : CutAt (value l d i) (value (l.take p) d i) i p := by
  have n1 := hd_take_ne (p := p) h1 (by decide)
  have n2 := hd_take_ne (p := p) h2 (by decide)
  rw [value_leaf h1 h2, value_leaf n1 n2]
  by_cases k1 : hd l i = 110
  · rw [if_pos k1]
    exact (wordV_cut l p (W := [117, 108, 108]) (by simp) k1).shift (by omega) (fun hp => by rw [if_pos (hd_take_eq k1 (by omega))])
  rw [if_neg k1, if_neg (hd_take_ne k1 (by decide))]
  by_cases k2 : hd l i = 116
  · rw [if_pos k2]
    exact (wordV_cut l p (W := [114, 117, 101]) (by simp) k2).shift (by omega) (fun hp => by rw [if_pos (hd_take_eq k2 (by omega))])
  rw [if_neg k2, if_neg (hd_take_ne k2 (by decide))]
  by_cases k3 : hd l i = 102
  · rw [if_pos k3]
    exact (wordV_cut l p (W := [97, 108, 115, 101]) (by simp) k3).shift (by omega) (fun hp => by rw [if_pos (hd_take_eq k3 (by omega))])
  rw [if_neg k3, if_neg (hd_take_ne k3 (by decide))]
  by_cases k4 : hd l i = 34
  · rw [if_pos k4]
    refine CutAt.shift (j := i + 1) (f' := match str (l.take p) i with
      | .error e => .error e
      | .ok (t, j) => .ok (.mk 4 ⟨t.toArray⟩ [] [], j)) ?_ (by omega) (fun hp => by rw [if_pos (hd_take_eq k4 (by omega))])
    have hs := str_cut l p i
    rcases hx : str l i with e | ⟨t, j⟩
    · exact hs.err hx rfl (fun e => by rw [e])
    · exact hs.next hx (g' := .ok (.mk 4 ⟨t.toArray⟩ [] [], j)) (CutAt.ok (Nat.le_refl _)) (fun e => by rw [e])
  rw [if_neg k4, if_neg (hd_take_ne k4 (by decide))]
  have hn := number_cut l p i
  rcases hx : number l i with e | j
  · exact hn.err hx rfl (fun e => by rw [e])
  · refine hn.next hx (g' := .ok (.mk 3 ⟨(((l.take p).drop i).take (j - i)).toArray⟩ [] [], j)) ?_ (fun e => by rw [e])
    refine CutAt.one (Nat.le_refl _) (fun hp => ?_)
    rw [List.drop_take, List.take_take, Nat.min_eq_left (by omega)]
theorem value_cut (l : List UInt8) (p : Nat) : ∀ d, ValCut (value l d) (value (l.take p) d) p := by
  have deep : ∀ d i, hd l i = 91 ∨ hd l i = 123 → (i = p → value (l.take p) d i = .error (p, 30)) := fun d i h e => by subst e; exact value_out hd_at
  intro d
  induction d with
  | zero =>
    intro i
    by_cases h : hd l i = 91 ∨ hd l i = 123
    · rw [value_deep h]
      exact CutAt.stop (deep 0 i h)
    · exact leaf_cut l p 0 i (fun e => h (.inl e)) (fun e => h (.inr e))
  | succ d ih =>
    intro i
    have hlp : (l.take p).length = min p l.length := List.length_take
    have hbi : i + 1 ≤ blanks l (i + 1) := by unfold blanks; omega
    by_cases h1 : hd l i = 91
    · rw [value_list h1]
      refine CutAt.shift (j := blanks l (i + 1)) (f' := match listL (l.take p) (value (l.take p) d) ((l.take p).length + 1) (blanks l (i + 1)) [] with
        | .error e => .error e
        | .ok (xs, j) => .ok (.mk 5 ⟨#[]⟩ xs [], j)) ?_ (by omega) (fun hp => by rw [value_list (hd_take_eq h1 (by omega)), blanks_cut hp])
      have hl := listL_cut l p ih (value_bd l d) (l.length + 1) ((l.take p).length + 1) (blanks l (i + 1)) [] (by omega) (by omega) (by omega) (by omega)
      rcases hx : listL l (value l d) (l.length + 1) (blanks l (i + 1)) [] with e | ⟨xs, j⟩
      · exact hl.err hx rfl (fun e => by rw [e])
      · exact hl.next hx (g' := .ok (.mk 5 ⟨#[]⟩ xs [], j)) (CutAt.ok (Nat.le_refl _)) (fun e => by rw [e])
    by_cases h2 : hd l i = 123
    · rw [value_obj h2]
      refine CutAt.shift (j := blanks l (i + 1)) (f' := match objL (l.take p) (value (l.take p) d) ((l.take p).length + 1) true (blanks l (i + 1)) [] with
        | .error e => .error e
        | .ok (xs, j) => .ok (.mk 6 ⟨#[]⟩ [] xs, j)) ?_ (by omega) (fun hp => by rw [value_obj (hd_take_eq h2 (by omega)), blanks_cut hp])
      have hl := objL_cut l p ih (value_bd l d) (l.length + 1) ((l.take p).length + 1) true (blanks l (i + 1)) [] (by omega) (by omega) (by omega) (by omega)
      rcases hx : objL l (value l d) (l.length + 1) true (blanks l (i + 1)) [] with e | ⟨xs, j⟩
      · exact hl.err hx rfl (fun e => by rw [e])
      · exact hl.next hx (g' := .ok (.mk 6 ⟨#[]⟩ [] xs, j)) (CutAt.ok (Nat.le_refl _)) (fun e => by rw [e])
    exact leaf_cut l p (d + 1) i h1 h2

/-- What JsonStops asks of the answers. -/
def Stops (l : List UInt8) : Prop :=
  ((parse l).2.2 = 0 ∧ (parse l).2.1 = 0) ∨
  ((parse l).1 = JV.null ∧ (parse l).2.1 ≤ l.length ∧ ((parse l).2.2 = 30 ∨ (parse l).2.2 = 31) ∧
    (((parse (l.take (parse l).2.1)).2.2 = 0 ∧ (parse l).2.2 = 30) ∨ ((parse (l.take (parse l).2.1)).2.2 = 30 ∧ (parse (l.take (parse l).2.1)).2.1 = (parse l).2.1)))
theorem stops_all (l : List UInt8) (hl : l.length ≤ 262144) : Stops l := by
  have hb0 := blanks_bd (l := l) (i := 0) (by omega)
  have hB := (value_bd l 64).1 _ hb0.2
  rcases hx : value l 64 (blanks l 0) with ⟨p, e⟩ | ⟨v, j⟩
  · rw [hx] at hB
    obtain ⟨h1, h2, h3⟩ := hB
    have hp : parse l = (JV.null, p, e) := by unfold parse; rw [if_neg (by omega), hx]
    have hc := (value_cut l p 64 (blanks l 0)).2 e hx
    have hq : parse (l.take p) = (JV.null, p, 30) := by
      unfold parse
      rw [if_neg (by rw [List.length_take]; omega), blanks_cut h1, hc.2]
    exact .inr (by rw [hp]; show _ ∧ _ ∧ _ ∧ ((parse (l.take p)).2.2 = 0 ∧ _ ∨ (parse (l.take p)).2.2 = 30 ∧ (parse (l.take p)).2.1 = p); rw [hq]; exact ⟨rfl, h2, h3, .inr ⟨rfl, rfl⟩⟩)
  · rw [hx] at hB
    have hj : blanks l 0 ≤ j ∧ j ≤ l.length := hB
    have hbj := blanks_bd hj.2
    by_cases hlt : blanks l j < l.length
    · have hp : parse l = (JV.null, blanks l j, 30) := by unfold parse; rw [if_neg (by omega), hx]; simp only; rw [if_pos hlt]
      have hc := ((value_cut l (blanks l j) 64 (blanks l 0)).1 _ _ hx).2 hbj.1
      have hq : parse (l.take (blanks l j)) = (v, 0, 0) := by
        unfold parse
        rw [if_neg (by rw [List.length_take]; omega), blanks_cut (by omega), hc]
        simp only
        rw [blanks_cut (Nat.le_refl _), if_neg (by rw [List.length_take]; omega)]
      exact .inr (by rw [hp]; show _ ∧ _ ∧ _ ∧ ((parse (l.take (blanks l j))).2.2 = 0 ∧ _ ∨ (parse (l.take (blanks l j))).2.2 = 30 ∧ _); rw [hq]; exact ⟨rfl, by show blanks l j ≤ _; omega, .inl rfl, .inl ⟨rfl, rfl⟩⟩)
    · have hp : parse l = (v, 0, 0) := by unfold parse; rw [if_neg (by omega), hx]; simp only; rw [if_neg hlt]
      exact .inl (by rw [hp]; exact ⟨rfl, rfl⟩)
end Js
end Go.Proofs.YtgnobnbbjekgnaaDoor
