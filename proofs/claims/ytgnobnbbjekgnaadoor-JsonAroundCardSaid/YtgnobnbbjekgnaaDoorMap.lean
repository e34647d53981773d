import Derived.Test.YtgnobnbbjekgnaaDoorLst
import Derived.Maps.OwnSet
import Derived.Maps.Views
/- Objects: a field's place among the names; the map of the places; a field replaced. -/
namespace Go.Proofs.YtgnobnbbjekgnaaDoor
open Go.RowKit
set_option linter.unusedVariables false

/-- The place of a name. -/
def idx (n : ByteArray) : List (ByteArray × JV) → Nat
  | [] => 0
  | (m, _) :: r => if m = n then 0 else idx n r + 1
theorem idx_le (n : ByteArray) : ∀ acc, idx n acc ≤ acc.length
  | [] => Nat.le_refl _
  | (m, _) :: r => by unfold idx; split; omega; have := idx_le n r; rw [List.length_cons]; omega
theorem put_old {n : ByteArray} {v : JV} : ∀ {acc : List (ByteArray × JV)}, idx n acc < acc.length → Js.put n v acc = acc.set (idx n acc) (n, v)
  | [], h => by simp at h
  | (m, x) :: r, h => by
    unfold idx at h ⊢
    unfold Js.put
    by_cases e : m = n
    · rw [if_pos e, if_pos e]; rfl
    · rw [if_neg e] at h
      rw [if_neg e, if_neg e, List.set_cons_succ, put_old (by simpa using h)]
theorem put_new {n : ByteArray} {v : JV} : ∀ {acc : List (ByteArray × JV)}, ¬idx n acc < acc.length → Js.put n v acc = acc ++ [(n, v)]
  | [], h => rfl
  | (m, x) :: r, h => by
    unfold idx at h
    unfold Js.put
    by_cases e : m = n
    · rw [if_pos e] at h; simp at h
    · rw [if_neg e] at h
      rw [if_neg e, List.cons_append, put_new (by simpa using h)]
theorem idx_old {n m : ByteArray} {v : JV} : ∀ {acc : List (ByteArray × JV)}, idx n acc < acc.length → idx m (acc.set (idx n acc) (n, v)) = idx m acc
  | [], h => by simp at h
  | (k, x) :: r, h => by
    unfold idx at h
    by_cases e : k = n
    · subst e
      simp [idx]
    · rw [if_neg e] at h
      have ih := idx_old (m := m) (v := v) (acc := r) (by simpa using h)
      simp only [idx, if_neg e, List.set_cons_succ, ih]
theorem idx_new {n m : ByteArray} {v : JV} : ∀ {acc : List (ByteArray × JV)}, idx m (acc ++ [(n, v)]) = if idx m acc < acc.length then idx m acc else if n = m then acc.length else acc.length + 1
  | [] => by simp only [List.nil_append, idx, List.length_nil]; simp
  | (k, x) :: r => by
    have ih := idx_new (n := n) (m := m) (v := v) (acc := r)
    simp only [List.cons_append, idx, List.length_cons]
    by_cases e : k = m
    · simp [e]
    · rw [if_neg e, if_neg e, ih]
      by_cases h : idx m r < r.length
      · rw [if_pos h, if_pos (by omega)]
      · rw [if_neg h, if_neg (show ¬(idx m r + 1 < r.length + 1) by omega)]
        split <;> rfl
theorem put_length_le (n : ByteArray) (v : JV) (acc : List (ByteArray × JV)) : (Js.put n v acc).length ≤ acc.length + 1 := by
  by_cases h : idx n acc < acc.length
  · rw [put_old h, List.length_set]; omega
  · rw [put_new h]; simp

/-- The map holds each name's place. -/
def MapOf (D : DataW Unit) (acc : List (ByteArray × JV)) : Prop :=
  ∀ n : ByteArray, D.atKey (.string n.data.toList) (.lit (.int .i64 0)) = .lit (.int .i64 (if idx n acc < acc.length then (idx n acc : Int) else 0)) ∧ Maps.has D (.string n.data.toList) = decide (idx n acc < acc.length)
theorem mapOf_nil : MapOf (.map []) [] := fun n => by
  refine ⟨?_, ?_⟩
  · simp [idx]; rfl
  · simp [idx]; rfl
theorem mapOf_old {D : DataW Unit} {acc : List (ByteArray × JV)} {n : ByteArray} {v : JV} (h : MapOf D acc) (hi : idx n acc < acc.length) : MapOf D (Js.put n v acc) := fun m => by
  rw [put_old hi, idx_old hi, List.length_set]
  exact h m
theorem mapOf_new {D : DataW Unit} {acc : List (ByteArray × JV)} {n : ByteArray} {v : JV} (h : MapOf D acc) (hD : Maps.IsMap D) (hi : ¬idx n acc < acc.length) : MapOf (D.put (.string n.data.toList) (.lit (.int .i64 (acc.length : Int)))) (Js.put n v acc) := fun m => by
  rw [put_new hi, idx_new, List.length_append]
  by_cases e : n = m
  · subst e
    rw [if_neg hi, if_pos rfl]
    refine ⟨?_, ?_⟩
    · rw [Maps.atKey_put_same hD (show WideAt.IsKeyLit (.string n.data.toList) from trivial), if_pos (by simp)]
    · rw [Maps.has_put_same hD (show WideAt.IsKeyLit (.string n.data.toList) from trivial)]; simp
  · have hne : (Lit.string m.data.toList) ≠ Lit.string n.data.toList := by
      intro h'
      injection h' with h'
      exact e (by
        cases n; cases m
        simp only at h'
        rw [Array.toList_inj] at h'
        rw [h'])
    obtain ⟨h1, h2⟩ := h m
    refine ⟨?_, ?_⟩
    · rw [Maps.atKey_put_other hne, h1]
      by_cases hm : idx m acc < acc.length
      · rw [if_pos hm, if_pos hm, if_pos (by simp; omega)]
      · rw [if_neg hm, if_neg hm, if_neg e, if_neg (by simp)]
    · rw [Maps.has_put_other hne, h2]
      by_cases hm : idx m acc < acc.length
      · rw [if_pos hm]; simp [hm]; omega
      · rw [if_neg hm, if_neg e]; simp [hm]

theorem RepF.set {ok : Nat → Prop} {w : World} {n : ByteArray} {t : JV} {k tx lv fv : Value} (hv : RepV ok w t (.agg #[k, tx, lv, fv])) : ∀ {l : List (ByteArray × JV)} {xs : List Value} {j : Nat}, RepF ok w l xs → j < l.length →
    RepF ok w (l.set j (n, t)) (((((xs.set (j * 5) (.string n)).set (j * 5 + 1) k).set (j * 5 + 2) tx).set (j * 5 + 3) lv).set (j * 5 + 4) fv)
  | [], xs, j, h, hj => by simp at hj
  | (m, u) :: l, xs, j, h, hj => by
    simp only [RepF] at h
    obtain ⟨v', r, rfl, h1, h2⟩ := h
    obtain ⟨la, lc, fa, fc, rfl⟩ := h1.cells
    cases j with
    | zero =>
      simp only [List.set_cons_zero, RepF]
      refine ⟨.agg #[k, tx, lv, fv], r, ?_, hv, h2⟩
      simp [Value.cells]
    | succ j =>
      have ih := RepF.set (n := n) hv h2 (j := j) (by simpa using hj)
      simp only [List.set_cons_succ, RepF]
      refine ⟨_, _, ?_, h1, ih⟩
      have e0 : (j + 1) * 5 = j * 5 + 1 + 1 + 1 + 1 + 1 := by omega
      simp [Value.cells, e0]
end Go.Proofs.YtgnobnbbjekgnaaDoor
