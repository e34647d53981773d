import Derived.Test.YtgnobnbbjekgnaaDoorRep
/- JSON values that can be read in memory, wherever they lie. -/
namespace Go.Proofs.YtgnobnbbjekgnaaDoor
open Go.RowKit
set_option linter.unusedVariables false

theorem cell_of_heap {w w' : World} {g : Nat} (h : w'.heap[g]? = w.heap[g]?) (o : Nat) : w'.cell? ⟨g, o, none⟩ = w.cell? ⟨g, o, none⟩ := by
  unfold World.cell?
  simp only [h]
theorem frozen_of_heap {w w' : World} {g : Nat} (h : w'.heap[g]? = w.heap[g]?) (o : Nat) : w'.frozen? ⟨g, o, none⟩ = w.frozen? ⟨g, o, none⟩ := by
  unfold World.frozen?
  simp only [h]

/-- Cells that can be read from an address on; the block is allowed; fr: they may be written. -/
def SeeRow (ok : Nat → Prop) (fr : Prop) (w : World) (a : Option Addr) (xs : List Value) : Prop :=
  xs = [] ∨ ∃ g off, a = some ⟨g, off, none⟩ ∧ ok g ∧ g < w.heap.size ∧ (fr → ∀ j, w.frozen? ⟨g, j, none⟩ = false) ∧ ∀ j v, xs[j]? = some v → w.cell? ⟨g, off + j, none⟩ = some v
theorem SeeRow.move {ok ok' : Nat → Prop} {fr fr' : Prop} {w w' : World} {a : Option Addr} {xs : List Value} (hf : fr' → fr) (hk : ∀ k, ok k → k < w.heap.size → ok' k) (hs : w.heap.size ≤ w'.heap.size) (hb : ∀ k, ok k → k < w.heap.size → w'.heap[k]? = w.heap[k]?)
    (h : SeeRow ok fr w a xs) : SeeRow ok' fr' w' a xs := by
  rcases h with h | ⟨g, off, h1, h2, h3, h4, h5⟩
  · exact .inl h
  · refine .inr ⟨g, off, h1, hk g h2 h3, by omega, fun hfr j => ?_, fun j v hj => ?_⟩
    · rw [frozen_of_heap (hb g h2 h3)]; exact h4 (hf hfr) j
    · rw [cell_of_heap (hb g h2 h3)]; exact h5 j v hj
mutual
def SeeV (ok : Nat → Prop) (fr : Prop) (w : World) : JV → Value → Prop
  | .mk k t l f, v => ∃ la lc fa fc xs ys, v = .agg #[.int .u8 k, .string t, .slice la l.length lc, .slice fa f.length fc] ∧ SeeRow ok fr w la xs ∧ SeeL ok fr w l xs ∧ SeeRow ok fr w fa ys ∧ SeeF ok fr w f ys
def SeeL (ok : Nat → Prop) (fr : Prop) (w : World) : List JV → List Value → Prop
  | [], xs => xs = []
  | t :: l, xs => ∃ v r, xs = v.cells.toList ++ r ∧ SeeV ok fr w t v ∧ SeeL ok fr w l r
def SeeF (ok : Nat → Prop) (fr : Prop) (w : World) : List (ByteArray × JV) → List Value → Prop
  | [], xs => xs = []
  | (n, t) :: l, xs => ∃ v r, xs = .string n :: (v.cells.toList ++ r) ∧ SeeV ok fr w t v ∧ SeeF ok fr w l r
end
mutual
theorem SeeV.move {ok ok' : Nat → Prop} {fr fr' : Prop} {w w' : World} (hf : fr' → fr) (hk : ∀ k, ok k → k < w.heap.size → ok' k) (hs : w.heap.size ≤ w'.heap.size) (hb : ∀ k, ok k → k < w.heap.size → w'.heap[k]? = w.heap[k]?) : ∀ (t : JV) (v : Value), SeeV ok fr w t v → SeeV ok' fr' w' t v
  | .mk k t l f, v => by
    intro h
    simp only [SeeV] at h ⊢
    obtain ⟨la, lc, fa, fc, xs, ys, h0, h1, h2, h3, h4⟩ := h
    exact ⟨la, lc, fa, fc, xs, ys, h0, h1.move hf hk hs hb, SeeL.move hf hk hs hb l xs h2, h3.move hf hk hs hb, SeeF.move hf hk hs hb f ys h4⟩
theorem SeeL.move {ok ok' : Nat → Prop} {fr fr' : Prop} {w w' : World} (hf : fr' → fr) (hk : ∀ k, ok k → k < w.heap.size → ok' k) (hs : w.heap.size ≤ w'.heap.size) (hb : ∀ k, ok k → k < w.heap.size → w'.heap[k]? = w.heap[k]?) : ∀ (l : List JV) (xs : List Value), SeeL ok fr w l xs → SeeL ok' fr' w' l xs
  | [], xs => by intro h; simp only [SeeL] at h ⊢; exact h
  | t :: l, xs => by
    intro h
    simp only [SeeL] at h ⊢
    obtain ⟨v, r, h0, h1, h2⟩ := h
    exact ⟨v, r, h0, SeeV.move hf hk hs hb t v h1, SeeL.move hf hk hs hb l r h2⟩
theorem SeeF.move {ok ok' : Nat → Prop} {fr fr' : Prop} {w w' : World} (hf : fr' → fr) (hk : ∀ k, ok k → k < w.heap.size → ok' k) (hs : w.heap.size ≤ w'.heap.size) (hb : ∀ k, ok k → k < w.heap.size → w'.heap[k]? = w.heap[k]?) : ∀ (l : List (ByteArray × JV)) (xs : List Value), SeeF ok fr w l xs → SeeF ok' fr' w' l xs
  | [], xs => by intro h; simp only [SeeF] at h ⊢; exact h
  | (n, t) :: l, xs => by
    intro h
    simp only [SeeF] at h ⊢
    obtain ⟨v, r, h0, h1, h2⟩ := h
    exact ⟨v, r, h0, SeeV.move hf hk hs hb t v h1, SeeF.move hf hk hs hb l r h2⟩
end
/-- What was there reads as before. -/
theorem SeeV.below {ok : Nat → Prop} {fr : Prop} {w w' : World} {t : JV} {v : Value} (h : SeeV ok fr w t v) (hb : Below w.heap.size w w') : SeeV ok fr w' t v := SeeV.move id (fun k hk _ => hk) hb.size (fun k _ hl => hb.block k hl) t v h
theorem SeeV.belowB {ok : Nat → Prop} {fr : Prop} {w w' : World} {t : JV} {v : Value} {B : Nat} (h : SeeV ok fr w t v) (hb : Below B w w') (hB : w.heap.size ≤ B) : SeeV ok fr w' t v := SeeV.move id (fun k hk _ => hk) hb.size (fun k _ hl => hb.block k (by omega)) t v h
theorem SeeV.alloc {ok : Nat → Prop} {fr : Prop} {w : World} {t : JV} {v : Value} (h : SeeV ok fr w t v) (o : Obj) : SeeV ok fr (w.alloc o) t v := h.below (gb_below (World.grownBy_alloc w o none))
/-- The four cells of one. -/
theorem SeeV.cells {ok : Nat → Prop} {fr : Prop} {w : World} {t : JV} {v : Value} (h : SeeV ok fr w t v) : ∃ la lc fa fc, v = .agg #[.int .u8 t.kind, .string t.text, .slice la t.list.length lc, .slice fa t.fields.length fc] := by
  cases t with
  | mk k t l f =>
    simp only [SeeV] at h
    obtain ⟨la, lc, fa, fc, xs, ys, h0, _⟩ := h
    exact ⟨la, lc, fa, fc, h0⟩
theorem SeeL.snoc {ok : Nat → Prop} {fr : Prop} {w : World} {t : JV} {v : Value} (hv : SeeV ok fr w t v) : ∀ {l : List JV} {xs : List Value}, SeeL ok fr w l xs → SeeL ok fr w (l ++ [t]) (xs ++ v.cells.toList)
  | [], xs, h => by
    simp only [SeeL] at h
    subst h
    exact (by simp only [List.nil_append, SeeL]; exact ⟨v, [], by simp, hv, rfl⟩)
  | u :: l, xs, h => by
    simp only [SeeL] at h
    obtain ⟨v', r, rfl, h1, h2⟩ := h
    simp only [List.cons_append, SeeL]
    exact ⟨v', r ++ v.cells.toList, by simp, h1, SeeL.snoc hv h2⟩
theorem SeeF.snoc {ok : Nat → Prop} {fr : Prop} {w : World} {n : ByteArray} {t : JV} {v : Value} (hv : SeeV ok fr w t v) : ∀ {l : List (ByteArray × JV)} {xs : List Value}, SeeF ok fr w l xs → SeeF ok fr w (l ++ [(n, t)]) (xs ++ .string n :: v.cells.toList)
  | [], xs, h => by
    simp only [SeeF] at h
    subst h
    exact (by simp only [List.nil_append, SeeF]; exact ⟨v, [], by simp, hv, rfl⟩)
  | (m, u) :: l, xs, h => by
    simp only [SeeF] at h
    obtain ⟨v', r, rfl, h1, h2⟩ := h
    simp only [List.cons_append, SeeF]
    exact ⟨v', r ++ .string n :: v.cells.toList, by simp, h1, SeeF.snoc hv h2⟩
theorem SeeL.length {ok : Nat → Prop} {fr : Prop} {w : World} : ∀ {l : List JV} {xs : List Value}, SeeL ok fr w l xs → xs.length = l.length * 4
  | [], xs, h => by simp only [SeeL] at h; subst h; rfl
  | u :: l, xs, h => by
    simp only [SeeL] at h
    obtain ⟨v', r, rfl, h1, h2⟩ := h
    obtain ⟨la, lc, fa, fc, rfl⟩ := h1.cells
    rw [List.length_append, SeeL.length h2]
    simp [Value.cells]; omega
theorem SeeF.length {ok : Nat → Prop} {fr : Prop} {w : World} : ∀ {l : List (ByteArray × JV)} {xs : List Value}, SeeF ok fr w l xs → xs.length = l.length * 5
  | [], xs, h => by simp only [SeeF] at h; subst h; rfl
  | (n, u) :: l, xs, h => by
    simp only [SeeF] at h
    obtain ⟨v', r, rfl, h1, h2⟩ := h
    obtain ⟨la, lc, fa, fc, rfl⟩ := h1.cells
    rw [List.length_cons, List.length_append, SeeF.length h2]
    simp [Value.cells]; omega
/-- The cells of element j. -/
theorem SeeL.at {ok : Nat → Prop} {fr : Prop} {w : World} : ∀ {l : List JV} {xs : List Value}, SeeL ok fr w l xs → ∀ (j : Nat) (t : JV), l[j]? = some t → ∃ v, SeeV ok fr w t v ∧ ∀ k, k < 4 → xs[j * 4 + k]? = v.cells[k]?
  | [], xs, h, j, t, hj => by simp at hj
  | u :: l, xs, h, j, t, hj => by
    simp only [SeeL] at h
    obtain ⟨v', r, rfl, h1, h2⟩ := h
    cases j with
    | zero =>
      simp at hj; subst hj
      refine ⟨v', h1, ?_⟩
      obtain ⟨la, lc, fa, fc, rfl⟩ := h1.cells
      intro k hk
      have : k = 0 ∨ k = 1 ∨ k = 2 ∨ k = 3 := by omega
      rcases this with rfl | rfl | rfl | rfl <;> simp [Value.cells]
    | succ j =>
      obtain ⟨v, hv, hc⟩ := SeeL.at h2 j t (by simpa using hj)
      refine ⟨v, hv, fun k hk => ?_⟩
      obtain ⟨la, lc, fa, fc, rfl⟩ := h1.cells
      rw [← hc k hk, List.getElem?_append_right (by simp [Value.cells]; omega)]
      congr 1
      simp [Value.cells]; omega
theorem SeeF.at {ok : Nat → Prop} {fr : Prop} {w : World} : ∀ {l : List (ByteArray × JV)} {xs : List Value}, SeeF ok fr w l xs → ∀ (j : Nat) (n : ByteArray) (t : JV), l[j]? = some (n, t) → ∃ v, SeeV ok fr w t v ∧ xs[j * 5]? = some (.string n) ∧ ∀ k, k < 4 → xs[j * 5 + 1 + k]? = v.cells[k]?
  | [], xs, h, j, n, t, hj => by simp at hj
  | (m, u) :: l, xs, h, j, n, t, hj => by
    simp only [SeeF] at h
    obtain ⟨v', r, rfl, h1, h2⟩ := h
    cases j with
    | zero =>
      simp at hj; obtain ⟨rfl, rfl⟩ := hj
      refine ⟨v', h1, by simp, ?_⟩
      obtain ⟨la, lc, fa, fc, rfl⟩ := h1.cells
      intro k hk
      have : k = 0 ∨ k = 1 ∨ k = 2 ∨ k = 3 := by omega
      rcases this with rfl | rfl | rfl | rfl <;> simp [Value.cells]
    | succ j =>
      obtain ⟨v, hv, h0, hc⟩ := SeeF.at h2 j n t (by simpa using hj)
      obtain ⟨la, lc, fa, fc, rfl⟩ := h1.cells
      refine ⟨v, hv, ?_, fun k hk => ?_⟩
      · rw [← h0, show (j + 1) * 5 = j * 5 + 4 + 1 by omega, List.getElem?_cons_succ, List.getElem?_append_right (by simp [Value.cells])]
        congr 1
      · rw [← hc k hk, show (j + 1) * 5 + 1 + k = (j * 5 + 1 + k + 4) + 1 by omega, List.getElem?_cons_succ, List.getElem?_append_right (by simp [Value.cells])]
        congr 1
/-- A row that is there: its address. -/
theorem SeeRow.addr {ok : Nat → Prop} {fr : Prop} {w : World} {a : Option Addr} {xs : List Value} (h : SeeRow ok fr w a xs) (hx : 0 < xs.length) : ∃ g off, a = some ⟨g, off, none⟩ ∧ ok g ∧ g < w.heap.size ∧ (fr → ∀ j, w.frozen? ⟨g, j, none⟩ = false) ∧ ∀ j v, xs[j]? = some v → w.cell? ⟨g, off + j, none⟩ = some v := by
  rcases h with h | h
  · rw [h] at hx; exact absurd hx (by simp)
  · exact h
theorem SeeRow.none {ok : Nat → Prop} {fr : Prop} {w : World} (a : Option Addr) : SeeRow ok fr w a [] := .inl rfl
theorem row_see {ok : Nat → Prop} {w : World} {B : Nat} {e : TypeId} {n m : Nat} {la : Option Addr} {lc : Nat} {xs : List Value} (h : w.ownsRow B e n (.slice la m lc) m xs) (hk : ∀ g, (Value.slice la m lc).ownBlock = some g → ok g) : SeeRow ok True w la xs := by
  have hx := h.1
  rcases Nat.eq_zero_or_pos xs.length with h0 | h0
  · exact .inl (List.length_eq_zero_iff.1 h0)
  · rcases h.2 with ⟨h1, h2⟩ | ⟨g, cap, cur, h1, h2, h3, _⟩
    · rw [h2] at hx; omega
    · cases h1
      have hlt := lt_of_block h3
      refine .inr ⟨g, 0, rfl, hk g rfl, hlt, fun _ j => blk_free h3 j, fun j v hj => ?_⟩
      have hj' : j < xs.length := (List.getElem?_eq_some_iff.1 hj).1
      rw [Nat.zero_add, h.cellAt j (by omega), hj]
mutual
theorem RepV.see {ok : Nat → Prop} {w : World} : ∀ (t : JV) (v : Value), RepV ok w t v → SeeV ok True w t v
  | .mk k t l f, v => by
    intro h
    simp only [RepV] at h
    simp only [SeeV]
    obtain ⟨lv, fv, xs, ys, rfl, h1, h2, h3, h4, h5, h6, _⟩ := h
    obtain ⟨la, lc, rfl⟩ := row_slice h1
    obtain ⟨fa, fc, rfl⟩ := row_slice h4
    exact ⟨la, lc, fa, fc, xs, ys, rfl, row_see h1 h2, RepL.see l xs h3, row_see h4 h5, RepF.see f ys h6⟩
theorem RepL.see {ok : Nat → Prop} {w : World} : ∀ (l : List JV) (xs : List Value), RepL ok w l xs → SeeL ok True w l xs
  | [], xs => by intro h; simp only [RepL] at h; simp only [SeeL]; exact h
  | t :: l, xs => by
    intro h
    simp only [RepL] at h
    simp only [SeeL]
    obtain ⟨v, r, h0, h1, h2⟩ := h
    exact ⟨v, r, h0, RepV.see t v h1, RepL.see l r h2⟩
theorem RepF.see {ok : Nat → Prop} {w : World} : ∀ (l : List (ByteArray × JV)) (xs : List Value), RepF ok w l xs → SeeF ok True w l xs
  | [], xs => by intro h; simp only [RepF] at h; simp only [SeeF]; exact h
  | (n, t) :: l, xs => by
    intro h
    simp only [RepF] at h
    simp only [SeeF]
    obtain ⟨v, r, h0, h1, h2⟩ := h
    exact ⟨v, r, h0, RepV.see t v h1, RepF.see l r h2⟩
end
theorem SeeV.leaf (ok : Nat → Prop) (fr : Prop) (w : World) (k : Int) (t : ByteArray) (la lb : Option Addr) (lc ld : Nat) : SeeV ok fr w (.mk k t [] []) (.agg #[.int .u8 k, .string t, .slice la 0 lc, .slice lb 0 ld]) := by
  simp only [SeeV]
  exact ⟨la, lc, lb, ld, [], [], rfl, SeeRow.none _, by simp [SeeL], SeeRow.none _, by simp [SeeF]⟩
end Go.Proofs.YtgnobnbbjekgnaaDoor
