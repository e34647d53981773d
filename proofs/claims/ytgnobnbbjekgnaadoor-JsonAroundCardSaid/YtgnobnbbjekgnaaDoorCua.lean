import Derived.Test.YtgnobnbbjekgnaaDoorCut
/- Plain Lean: a text cut off at the place where its reading stops: escapes, texts, values. -/
namespace Go.Proofs.YtgnobnbbjekgnaaDoor
set_option linter.unusedVariables false
namespace Js

theorem CutAt.shift {α : Type} {f f' g : R α} {i j p : Nat} (h : CutAt f f' j p) (hij : i ≤ j) (hg : j ≤ p → g = f') : CutAt f g i p :=
  ⟨fun y k e => ⟨by have := (h.1 y k e).1; omega, fun hk => by rw [hg (by have := (h.1 y k e).1; omega)]; exact (h.1 y k e).2 hk⟩, fun e he => ⟨by have := (h.2 e he).1; omega, by rw [hg (h.2 e he).1]; exact (h.2 e he).2⟩⟩
/-- It stops here. -/
theorem CutAt.stop {α : Type} {g : R α} {i p : Nat} {n : Int} (h : i = p → g = .error (p, 30)) : CutAt (.error (i, n)) g i p :=
  ⟨(fun y k e => by cases e), fun e he => by cases he; exact ⟨Nat.le_refl _, h rfl⟩⟩
/-- It goes on by one. -/
theorem CutAt.one {α : Type} {g : R α} {i j p : Nat} {x : α} (hij : i ≤ j) (h : j ≤ p → g = .ok (x, j)) : CutAt (.ok (x, j)) g i p :=
  ⟨(fun y k e => by cases e; exact ⟨hij, h⟩), fun e he => by cases he⟩
theorem hd_at {l : List UInt8} {p : Nat} : hd (l.take p) p = 0 := hd_cut (Nat.le_refl _)

theorem hexes_cut (l : List UInt8) (p : Nat) : ∀ (k n i : Nat), CutAt (hexes l k n i) (hexes (l.take p) k n i) i p
  | 0, n, i => CutAt.ok (Nat.le_refl _)
  | k + 1, n, i => by
    simp only [hexes]
    rcases h : hex (hd l i) with _ | d
    · exact CutAt.stop (fun e => by subst e; rw [hd_at]; rfl)
    · exact (hexes_cut l p k (n * 16 + d) (i + 1)).shift (by omega) (fun hp => by rw [hd_take (by omega), h])
theorem hexes_end (l : List UInt8) : ∀ (k n i m j : Nat), hexes l k n i = .ok (m, j) → j = i + k
  | 0, n, i, m, j, h => by simp only [hexes] at h; cases h; rfl
  | k + 1, n, i, m, j, h => by
    simp only [hexes] at h
    rcases he : hex (hd l i) with _ | d
    · rw [he] at h; cases h
    · rw [he] at h; have := hexes_end l k _ _ _ _ h; omega
theorem unit_cut (l : List UInt8) (p i : Nat) : CutAt (unit l i) (unit (l.take p) i) i p := by
  unfold unit
  by_cases h : hd l i = 117
  · rw [if_pos h]
    exact (hexes_cut l p 4 0 (i + 1)).shift (by omega) (fun hp => by rw [if_pos (hd_take_eq h (by omega))])
  · rw [if_neg h]
    exact CutAt.stop (fun e => by subst e; rw [hd_at]; rfl)
theorem unit_end {l : List UInt8} {i u j : Nat} (h : unit l i = .ok (u, j)) : j = i + 5 := by
  unfold unit at h
  split at h
  · have := hexes_end _ _ _ _ _ _ h; omega
  · cases h
theorem hexes_same {l m : List UInt8} : ∀ {k n i : Nat}, (∀ q, i ≤ q → q < i + k → hd m q = hd l q) → hexes m k n i = hexes l k n i
  | 0, n, i, h => rfl
  | k + 1, n, i, h => by
    simp only [hexes]
    rw [h i (Nat.le_refl _) (by omega)]
    rcases hex (hd l i) with _ | d
    · rfl
    · exact hexes_same (fun q h1 h2 => h q (by omega) (by omega))
theorem pair_unit {l : List UInt8} {j u : Nat} (h : pair l j u = true) : ∃ w, unit l (j + 1) = .ok (w, j + 6) ∧ j + 6 ≤ l.length := by
  unfold pair at h
  split at h
  · cases h
  · rename_i hlen
    split at h
    · rename_i h2
      rcases hx : hexes l 4 0 (j + 2) with e | ⟨w, k⟩
      · rw [hx] at h; cases h
      · have := hexes_end _ _ _ _ _ _ hx
        refine ⟨w, ?_, by omega⟩
        unfold unit
        rw [if_pos h2.2, show j + 1 + 1 = j + 2 from rfl, hx, this]
    · cases h
theorem pair_cut {l : List UInt8} {p j u : Nat} (h : j + 6 ≤ p) : pair (l.take p) j u = pair l j u := by
  unfold pair
  rw [List.length_take, hd_take (by omega), hd_take (by omega), hexes_same (l := l) (m := l.take p) (fun q h1 h2 => hd_take (by omega))]
  by_cases hl : l.length < j + 6
  · rw [if_pos hl, if_pos (by omega)]
  · rw [if_neg hl, if_neg (by omega)]
theorem pair_short {l : List UInt8} {j u : Nat} (h : l.length < j + 6) : pair l j u = false := by unfold pair; rw [if_pos h]
theorem pair_cut_false {l : List UInt8} {p j u : Nat} (h : pair l j u = false) : pair (l.take p) j u = false := by
  rcases Nat.lt_or_ge p (j + 6) with h1 | h1
  · exact pair_short (by rw [List.length_take]; omega)
  · rw [pair_cut h1]; exact h
theorem escape_cut (l : List UInt8) (p i : Nat) : CutAt (escape l i) (escape (l.take p) i) i p := by
  unfold escape
  rcases h : esc1 (hd l i) with _ | c
  · simp only
    have h' : esc1 (hd (l.take p) i) = none := by
      rcases Nat.lt_or_ge i p with hp | hp
      · rw [hd_take hp]; exact h
      · rw [hd_cut hp]; rfl
    rw [h']
    have hu := unit_cut l p i
    rcases hx : unit l i with e | ⟨u, j⟩
    · exact hu.err hx rfl (fun e => by rw [e])
    · refine hu.next hx (g' := if 55296 ≤ u ∧ u < 57344 then
        if pair (l.take p) j u then
          match unit (l.take p) (j + 1) with
          | .error e => .error e
          | .ok (w, k) => .ok (joined u w, k)
        else .ok (65533, j)
      else .ok (u, j)) ?_ (fun e => by rw [e]; rfl)
      simp only
      by_cases hs : 55296 ≤ u ∧ u < 57344
      · rw [if_pos hs, if_pos hs]
        rcases hp : pair l j u with _ | _
        · rw [pair_cut_false hp]
          exact CutAt.ok (Nat.le_refl _)
        · obtain ⟨w, hw, hl⟩ := pair_unit hp
          rw [if_pos rfl, hw]
          refine CutAt.one (by omega) (fun hk => ?_)
          rw [pair_cut hk, hp, if_pos rfl, ((unit_cut l p (j + 1)).1 _ _ hw).2 hk]
      · rw [if_neg hs, if_neg hs]
        exact CutAt.ok (Nat.le_refl _)
  · simp only
    refine CutAt.one (by omega) (fun hp => ?_)
    rw [hd_take (by omega), h]
theorem escape_lt {l : List UInt8} {i u j : Nat} (h : escape l i = .ok (u, j)) : i < j := by
  unfold escape at h
  rcases h1 : esc1 (hd l i) with _ | c
  · rw [h1] at h
    simp only at h
    rcases hx : unit l i with e | ⟨v, k⟩
    · rw [hx] at h; cases h
    · rw [hx] at h
      simp only at h
      have := unit_end hx
      split at h
      · split at h
        · rcases hy : unit l (k + 1) with e | ⟨w, m⟩
          · rw [hy] at h; cases h
          · rw [hy] at h; cases h
            have := unit_end hy
            omega
        · cases h; omega
      · cases h; omega
  · rw [h1] at h; cases h; omega

theorem decodeN_cut {n q b0 b1 b2 b3 c1 c2 c3 : Nat} (hn : 0 < n) (hq : (Lib.decodeN n b0 b1 b2 b3).2 ≤ q) (h1 : 1 < q → c1 = b1) (h2 : 2 < q → c2 = b2) (h3 : 3 < q → c3 = b3) (hbad : Lib.decodeN n b0 b1 b2 b3 ≠ (65533, 1)) :
    Lib.decodeN (min q n) b0 c1 c2 c3 = Lib.decodeN n b0 b1 b2 b3 := by
  unfold Lib.decodeN at hq hbad ⊢
  by_cases k0 : b0 < 128
  · rw [if_pos k0, if_pos k0]
  rw [if_neg k0] at hq hbad ⊢
  rw [if_neg k0]
  by_cases k1 : b0 / 32 = 6 ∧ (1 < n ∧ b1 / 64 = 2)
  · rw [if_pos k1] at hq hbad ⊢
    by_cases r1 : b0 % 32 * 64 + b1 % 64 ≥ 128
    · rw [if_pos r1] at hq ⊢
      simp only at hq
      have e1 := h1 (by omega)
      subst e1
      rw [if_pos ⟨k1.1, by omega, k1.2.2⟩, if_pos r1]
    · rw [if_neg r1] at hbad; exact absurd rfl hbad
  rw [if_neg k1] at hq hbad ⊢
  by_cases k2 : b0 / 16 = 14 ∧ (1 < n ∧ b1 / 64 = 2) ∧ (2 < n ∧ b2 / 64 = 2)
  · rw [if_pos k2] at hq hbad ⊢
    split at hq
    · rename_i r2
      simp only at hq
      have e1 := h1 (by omega)
      have e2 := h2 (by omega)
      subst e1 e2
      rw [if_pos r2, if_neg (by omega), if_pos ⟨k2.1, ⟨by omega, k2.2.1.2⟩, by omega, k2.2.2.2⟩]
    · rename_i r2
      rw [if_neg r2] at hbad; exact absurd rfl hbad
  rw [if_neg k2] at hq hbad ⊢
  by_cases k3 : b0 / 8 = 30 ∧ (1 < n ∧ b1 / 64 = 2) ∧ (2 < n ∧ b2 / 64 = 2) ∧ (3 < n ∧ b3 / 64 = 2)
  · rw [if_pos k3] at hq hbad ⊢
    split at hq
    · rename_i r3
      simp only at hq
      have e1 := h1 (by omega)
      have e2 := h2 (by omega)
      have e3 := h3 (by omega)
      subst e1 e2 e3
      rw [if_pos r3, if_neg (by omega), if_neg (by omega), if_pos ⟨k3.1, ⟨by omega, k3.2.1.2⟩, ⟨by omega, k3.2.2.1.2⟩, by omega, k3.2.2.2.2⟩]
    · rename_i r3
      rw [if_neg r3] at hbad; exact absurd rfl hbad
  rw [if_neg k3] at hbad
  exact absurd rfl hbad
theorem decodeN_pos (n b0 b1 b2 b3 : Nat) : 1 ≤ (Lib.decodeN n b0 b1 b2 b3).2 := by
  unfold Lib.decodeN
  repeat' split
  all_goals simp
theorem whole_iff {l : List UInt8} {i : Nat} : whole l i = true ↔ i < l.length ∧ dec l i ≠ (65533, 1) := by
  unfold whole
  simp
theorem dec_cut {l : List UInt8} {i p : Nat} (h : whole l i = true) (hp : i + (dec l i).2 ≤ p) : dec (l.take p) i = dec l i := by
  obtain ⟨h1, h2⟩ := whole_iff.1 h
  have h0 : 1 ≤ (dec l i).2 := decodeN_pos _ _ _ _ _
  unfold dec at hp h2 h0 ⊢
  have e : (l.take p).length - i = min (p - i) (l.length - i) := by rw [List.length_take]; omega
  rw [e, hd_take (show i < p by omega)]
  exact decodeN_cut (by omega) (by omega) (fun h => hd_take (by omega)) (fun h => hd_take (by omega)) (fun h => hd_take (by omega)) h2
theorem whole_cut {l : List UInt8} {i p : Nat} (h : whole l i = true) (hp : i + (dec l i).2 ≤ p) : whole (l.take p) i = true := by
  obtain ⟨h1, h2⟩ := whole_iff.1 h
  have h0 : 1 ≤ (dec l i).2 := decodeN_pos _ _ _ _ _
  refine whole_iff.2 ⟨by rw [List.length_take]; omega, by rw [dec_cut h hp]; exact h2⟩

/-- A string's inside; the measures suffice. -/
theorem text_cut (l : List UInt8) (p : Nat) : ∀ (n n' i : Nat) (out : List UInt8), 0 < n → 0 < n' → l.length < n + i → (l.take p).length < n' + i → CutAt (text l n i out) (text (l.take p) n' i out) i p
  | 0, n', i, out, h, _, _, _ => by omega
  | n + 1, 0, i, out, _, h, _, _ => by omega
  | n + 1, n' + 1, i, out, _, _, hn, hn' => by
    simp only [text]
    by_cases h34 : hd l i = 34
    · rw [if_pos h34]
      exact CutAt.one (by omega) (fun hp => by rw [hd_take (by omega), if_pos h34])
    rw [if_neg h34]
    by_cases h32 : hd l i < 32
    · rw [if_pos h32]
      exact CutAt.stop (fun e => by subst e; rw [hd_at]; rfl)
    rw [if_neg h32]
    have hlen := hd_len (l := l) (k := i) (by omega)
    by_cases h92 : hd l i = 92
    · rw [if_pos h92]
      have hstep : i < p → (if hd (l.take p) i = 34 then .ok (out, i + 1) else if hd (l.take p) i < 32 then .error (i, 30) else if hd (l.take p) i = 92 then
          match escape (l.take p) (i + 1) with
          | .error e => .error e
          | .ok (u, j) => text (l.take p) n' j (out ++ Lib.encodeRune u)
        else if whole (l.take p) i then text (l.take p) n' (i + (dec (l.take p) i).2) (out ++ ((l.take p).drop i).take (dec (l.take p) i).2) else .error (i, 30)) = (match escape (l.take p) (i + 1) with
          | .error e => .error e
          | .ok (u, j) => text (l.take p) n' j (out ++ Lib.encodeRune u) : R (List UInt8)) := fun hp => by
        rw [hd_take hp, if_neg h34, if_neg h32, if_pos h92]
      refine CutAt.shift (j := i + 1) ?_ (by omega) (fun hp => hstep (by omega))
      have he := escape_cut l p (i + 1)
      rcases hx : escape l (i + 1) with e | ⟨u, j⟩
      · exact he.err hx rfl (fun e => by rw [e])
      · have hj := escape_lt hx
        refine he.next hx (g' := text (l.take p) n' j (out ++ Lib.encodeRune u)) ?_ (fun e => by rw [e])
        rcases Nat.lt_or_ge p j with hpj | hpj
        · -- behind the cut: nothing is asked
          have h1 : ∀ y k, text l n j (out ++ Lib.encodeRune u) = .ok (y, k) → j ≤ k := fun y k e => text_ge l n j _ _ _ e
          refine ⟨fun y k e => ⟨h1 y k e, fun hk => by have := h1 y k e; omega⟩, fun e he' => ?_⟩
          have := text_err l n j _ _ _ he'
          omega
        · have : (l.take p).length ≤ p := by rw [List.length_take]; omega
          have : i < (l.take p).length := by rw [List.length_take]; omega
          exact text_cut l p n n' j _ (by omega) (by omega) (by omega) (by omega)
    rw [if_neg h92]
    rcases hw : whole l i with _ | _
    · rw [if_neg (by simp)]
      exact CutAt.stop (fun e => by subst e; rw [hd_at]; rfl)
    rw [if_pos rfl]
    have h0 : 1 ≤ (dec l i).2 := decodeN_pos _ _ _ _ _
    rcases Nat.lt_or_ge p (i + (dec l i).2) with hpj | hpj
    · have h1 : ∀ y k, text l n (i + (dec l i).2) (out ++ (l.drop i).take (dec l i).2) = .ok (y, k) → i + (dec l i).2 ≤ k := fun y k e => text_ge l n _ _ _ _ e
      refine ⟨fun y k e => ⟨by have := h1 y k e; omega, fun hk => by have := h1 y k e; omega⟩, fun e he' => ?_⟩
      have := text_err l n _ _ _ _ he'
      omega
    · have hlp : (l.take p).length ≤ p := by rw [List.length_take]; omega
      have hlq : i < (l.take p).length := by rw [List.length_take]; omega
      refine CutAt.shift (text_cut l p n n' (i + (dec l i).2) (out ++ (l.drop i).take (dec l i).2) (by omega) (by omega) (by omega) (by omega)) (by omega) (fun hp => ?_)
      rw [hd_take (by omega), if_neg h34, if_neg h32, if_neg h92, whole_cut hw hp, if_pos rfl, dec_cut hw hp, List.drop_take, List.take_take, Nat.min_eq_left (by omega)]
where
  text_ge (l : List UInt8) : ∀ (n i : Nat) (out : List UInt8) (y : List UInt8) (k : Nat), text l n i out = .ok (y, k) → i ≤ k
    | 0, i, out, y, k, h => by simp only [text] at h; cases h
    | n + 1, i, out, y, k, h => by
      simp only [text] at h
      split at h
      · cases h; omega
      split at h
      · cases h
      split at h
      · rcases hx : escape l (i + 1) with e | ⟨u, j⟩
        · rw [hx] at h; cases h
        · rw [hx] at h
          have := escape_lt hx
          have := text_ge l n j _ _ _ h
          omega
      split at h
      · have := text_ge l n _ _ _ _ h
        omega
      · cases h
  text_err (l : List UInt8) : ∀ (n i : Nat) (out : List UInt8) (q : Nat) (e : Int), text l n i out = .error (q, e) → i ≤ q
    | 0, i, out, q, e, h => by simp only [text] at h; cases h; omega
    | n + 1, i, out, q, e, h => by
      simp only [text] at h
      split at h
      · cases h
      split at h
      · cases h; omega
      split at h
      · rcases hx : escape l (i + 1) with ⟨a, b⟩ | ⟨u, j⟩
        · rw [hx] at h
          cases h
          have := (escape_cut l q (i + 1)).2 _ hx
          omega
        · rw [hx] at h
          have := escape_lt hx
          have := text_err l n j _ _ _ h
          omega
      split at h
      · have := text_err l n _ _ _ _ h
        omega
      · cases h; omega
theorem str_cut (l : List UInt8) (p i : Nat) : CutAt (str l i) (str (l.take p) i) (i + 1) p := by
  unfold str
  exact text_cut l p _ _ (i + 1) [] (by omega) (by omega) (by omega) (by omega)
theorem str_lt {l : List UInt8} {i j : Nat} {t : List UInt8} (h : str l i = .ok (t, j)) : i < j := by
  have := ((str_cut l 0 i).1 _ _ h).1
  omega
end Js
end Go.Proofs.YtgnobnbbjekgnaaDoor
