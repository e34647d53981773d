import Derived.Test.YtgnobnbbjekgnaaDoorTexu
import Derived.Deep.Onto
/- JSON values in memory: which value lies where. -/
namespace Go.Proofs.YtgnobnbbjekgnaaDoor
open Go.RowKit
set_option linter.unusedVariables false

theorem row_move {w w' : World} {B : Nat} {e : TypeId} {n : Nat} {v : Value} {m : Nat} {xs : List Value} (h : w.ownsRow B e n v m xs) (hb : ∀ g, v.ownBlock = some g → w'.heap[g]? = w.heap[g]?) : w'.ownsRow B e n v m xs := by
  refine ⟨h.1, ?_⟩
  rcases h.2 with h | ⟨g, cap, cur, rfl, h1, h2, h3⟩
  · exact .inl h
  · exact .inr ⟨g, cap, cur, rfl, h1, by rw [hb g rfl]; exact h2, h3⟩

theorem heap_set_ne {w : World} {p : Addr} {u : Value} {k : Nat} (h : k ≠ p.block) : (w.setCell p u).heap[k]? = w.heap[k]? := Below.heap_setCell _ _ _ _ h
mutual
/-- A tree lies in memory, every block of it being allowed. -/
def RepV (ok : Nat → Prop) (w : World) : JV → Value → Prop
  | .mk k t l f, v => ∃ lv fv xs ys, v = .agg #[.int .u8 k, .string t, lv, fv] ∧ w.ownsRow 0 25 4 lv l.length xs ∧ (∀ g, lv.ownBlock = some g → ok g) ∧ RepL ok w l xs ∧
      w.ownsRow 0 38 5 fv f.length ys ∧ (∀ g, fv.ownBlock = some g → ok g) ∧ RepF ok w f ys ∧ (l = [] → lv = .slice none 0 0) ∧ (f = [] → fv = .slice none 0 0)
def RepL (ok : Nat → Prop) (w : World) : List JV → List Value → Prop
  | [], xs => xs = []
  | t :: l, xs => ∃ v r, xs = v.cells.toList ++ r ∧ RepV ok w t v ∧ RepL ok w l r
def RepF (ok : Nat → Prop) (w : World) : List (ByteArray × JV) → List Value → Prop
  | [], xs => xs = []
  | (n, t) :: l, xs => ∃ v r, xs = .string n :: (v.cells.toList ++ r) ∧ RepV ok w t v ∧ RepF ok w l r
end

mutual
theorem RepV.move {ok ok' : Nat → Prop} {w w' : World} (hk : ∀ k, ok k → k < w.heap.size → ok' k) (hb : ∀ k, ok k → k < w.heap.size → w'.heap[k]? = w.heap[k]?) : ∀ (t : JV) (v : Value), RepV ok w t v → RepV ok' w' t v
  | .mk k t l f, v => by
    intro h
    simp only [RepV] at h ⊢
    obtain ⟨lv, fv, xs, ys, h0, h1, h2, h3, h4, h5, h6, h7⟩ := h
    exact ⟨lv, fv, xs, ys, h0, row_move h1 (fun g e => hb g (h2 g e) (h1.lt g e).2), fun g e => hk g (h2 g e) (h1.lt g e).2, RepL.move hk hb l xs h3, row_move h4 (fun g e => hb g (h5 g e) (h4.lt g e).2), fun g e => hk g (h5 g e) (h4.lt g e).2, RepF.move hk hb f ys h6, h7⟩
theorem RepL.move {ok ok' : Nat → Prop} {w w' : World} (hk : ∀ k, ok k → k < w.heap.size → ok' k) (hb : ∀ k, ok k → k < w.heap.size → w'.heap[k]? = w.heap[k]?) : ∀ (l : List JV) (xs : List Value), RepL ok w l xs → RepL ok' w' l xs
  | [], xs => by intro h; simp only [RepL] at h ⊢; exact h
  | t :: l, xs => by
    intro h
    simp only [RepL] at h ⊢
    obtain ⟨v, r, h0, h1, h2⟩ := h
    exact ⟨v, r, h0, RepV.move hk hb t v h1, RepL.move hk hb l r h2⟩
theorem RepF.move {ok ok' : Nat → Prop} {w w' : World} (hk : ∀ k, ok k → k < w.heap.size → ok' k) (hb : ∀ k, ok k → k < w.heap.size → w'.heap[k]? = w.heap[k]?) : ∀ (l : List (ByteArray × JV)) (xs : List Value), RepF ok w l xs → RepF ok' w' l xs
  | [], xs => by intro h; simp only [RepF] at h ⊢; exact h
  | (n, t) :: l, xs => by
    intro h
    simp only [RepF] at h ⊢
    obtain ⟨v, r, h0, h1, h2⟩ := h
    exact ⟨v, r, h0, RepV.move hk hb t v h1, RepF.move hk hb l r h2⟩
end

theorem RepV.form {ok : Nat → Prop} {w : World} {t : JV} {v : Value} (h : RepV ok w t v) : ∃ lv fv, v = .agg #[.int .u8 t.kind, .string t.text, lv, fv] ∧ (∃ xs, w.ownsRow 0 25 4 lv t.list.length xs ∧ RepL ok w t.list xs) ∧ (∀ g, lv.ownBlock = some g → ok g) ∧
    (∃ ys, w.ownsRow 0 38 5 fv t.fields.length ys ∧ RepF ok w t.fields ys) ∧ (∀ g, fv.ownBlock = some g → ok g) := by
  cases t with
  | mk k t l f =>
    simp only [RepV] at h
    obtain ⟨lv, fv, xs, ys, h0, h1, h2, h3, h4, h5, h6, _⟩ := h
    exact ⟨lv, fv, h0, ⟨xs, h1, h3⟩, h2, ⟨ys, h4, h6⟩, h5⟩
theorem RepV.mk' {ok : Nat → Prop} {w : World} {k : Int} {t : ByteArray} {l : List JV} {f : List (ByteArray × JV)} {lv fv : Value} {xs ys : List Value} (h1 : w.ownsRow 0 25 4 lv l.length xs) (h2 : ∀ g, lv.ownBlock = some g → ok g) (h3 : RepL ok w l xs)
    (h4 : w.ownsRow 0 38 5 fv f.length ys) (h5 : ∀ g, fv.ownBlock = some g → ok g) (h6 : RepF ok w f ys) (h7 : l = [] → lv = .slice none 0 0) (h8 : f = [] → fv = .slice none 0 0) : RepV ok w (.mk k t l f) (.agg #[.int .u8 k, .string t, lv, fv]) := by
  simp only [RepV]
  exact ⟨lv, fv, xs, ys, rfl, h1, h2, h3, h4, h5, h6, h7, h8⟩
theorem RepV.leaf (ok : Nat → Prop) (w : World) (k : Int) (t : ByteArray) : RepV ok w (.mk k t [] []) (.agg #[.int .u8 k, .string t, .slice none 0 0, .slice none 0 0]) :=
  RepV.mk' (World.ownsRow_nil _ _ _ _) (by simp [Value.ownBlock]) (by simp [RepL]) (World.ownsRow_nil _ _ _ _) (by simp [Value.ownBlock]) (by simp [RepF]) (fun _ => rfl) (fun _ => rfl)
theorem row_slice {w : World} {B : Nat} {e : TypeId} {n : Nat} {v : Value} {m : Nat} {xs : List Value} (h : w.ownsRow B e n v m xs) : ∃ ao cap, v = .slice ao m cap := by
  rcases h.2 with ⟨h, h0⟩ | ⟨g, cap, cur, h, _⟩
  · exact ⟨none, 0, by rw [h, h0]⟩
  · exact ⟨_, _, h⟩
/-- A value's four cells. -/
theorem RepV.cells {ok : Nat → Prop} {w : World} {t : JV} {v : Value} (h : RepV ok w t v) : ∃ la lc fa fc, v = .agg #[.int .u8 t.kind, .string t.text, .slice la t.list.length lc, .slice fa t.fields.length fc] := by
  obtain ⟨lv, fv, h0, ⟨xs, h1, _⟩, _, ⟨ys, h2, _⟩, _⟩ := h.form
  obtain ⟨la, lc, rfl⟩ := row_slice h1
  obtain ⟨fa, fc, rfl⟩ := row_slice h2
  exact ⟨la, lc, fa, fc, h0⟩

theorem RepL.snoc {ok : Nat → Prop} {w : World} {t : JV} {v : Value} (hv : RepV ok w t v) : ∀ {l : List JV} {xs : List Value}, RepL ok w l xs → RepL ok w (l ++ [t]) (xs ++ v.cells.toList)
  | [], xs, h => by
    simp only [RepL] at h
    subst h
    exact (by simp only [List.nil_append, RepL]; exact ⟨v, [], by simp, hv, rfl⟩)
  | u :: l, xs, h => by
    simp only [RepL] at h
    obtain ⟨v', r, rfl, h1, h2⟩ := h
    simp only [List.cons_append, RepL]
    exact ⟨v', r ++ v.cells.toList, by simp, h1, RepL.snoc hv h2⟩
theorem RepF.snoc {ok : Nat → Prop} {w : World} {n : ByteArray} {t : JV} {v : Value} (hv : RepV ok w t v) : ∀ {l : List (ByteArray × JV)} {xs : List Value}, RepF ok w l xs → RepF ok w (l ++ [(n, t)]) (xs ++ .string n :: v.cells.toList)
  | [], xs, h => by
    simp only [RepF] at h
    subst h
    exact (by simp only [List.nil_append, RepF]; exact ⟨v, [], by simp, hv, rfl⟩)
  | (m, u) :: l, xs, h => by
    simp only [RepF] at h
    obtain ⟨v', r, rfl, h1, h2⟩ := h
    simp only [List.cons_append, RepF]
    exact ⟨v', r ++ .string n :: v.cells.toList, by simp, h1, RepF.snoc hv h2⟩
theorem RepL.length {ok : Nat → Prop} {w : World} : ∀ {l : List JV} {xs : List Value}, RepL ok w l xs → xs.length = l.length * 4
  | [], xs, h => by simp only [RepL] at h; subst h; rfl
  | u :: l, xs, h => by
    simp only [RepL] at h
    obtain ⟨v', r, rfl, h1, h2⟩ := h
    obtain ⟨la, lc, fa, fc, rfl⟩ := h1.cells
    rw [List.length_append, RepL.length h2]
    simp [Value.cells]; omega
theorem RepF.length {ok : Nat → Prop} {w : World} : ∀ {l : List (ByteArray × JV)} {xs : List Value}, RepF ok w l xs → xs.length = l.length * 5
  | [], xs, h => by simp only [RepF] at h; subst h; rfl
  | (n, u) :: l, xs, h => by
    simp only [RepF] at h
    obtain ⟨v', r, rfl, h1, h2⟩ := h
    obtain ⟨la, lc, fa, fc, rfl⟩ := h1.cells
    rw [List.length_cons, List.length_append, RepF.length h2]
    simp [Value.cells]; omega
/-- The cells of element j. -/
theorem RepL.at {ok : Nat → Prop} {w : World} : ∀ {l : List JV} {xs : List Value}, RepL ok w l xs → ∀ (j : Nat) (t : JV), l[j]? = some t → ∃ v, RepV ok w t v ∧ ∀ k, k < 4 → xs[j * 4 + k]? = v.cells[k]?
  | [], xs, h, j, t, hj => by simp at hj
  | u :: l, xs, h, j, t, hj => by
    simp only [RepL] at h
    obtain ⟨v', r, rfl, h1, h2⟩ := h
    cases j with
    | zero =>
      simp at hj; subst hj
      refine ⟨v', h1, ?_⟩
      obtain ⟨la, lc, fa, fc, rfl⟩ := h1.cells
      intro k hk
      have : k = 0 ∨ k = 1 ∨ k = 2 ∨ k = 3 := by omega
      rcases this with rfl | rfl | rfl | rfl <;> simp [Value.cells]
    | succ j =>
      obtain ⟨v, hv, hc⟩ := RepL.at h2 j t (by simpa using hj)
      refine ⟨v, hv, fun k hk => ?_⟩
      obtain ⟨la, lc, fa, fc, rfl⟩ := h1.cells
      rw [← hc k hk, List.getElem?_append_right (by simp [Value.cells]; omega)]
      congr 1
      simp [Value.cells]; omega
theorem RepF.at {ok : Nat → Prop} {w : World} : ∀ {l : List (ByteArray × JV)} {xs : List Value}, RepF ok w l xs → ∀ (j : Nat) (n : ByteArray) (t : JV), l[j]? = some (n, t) → ∃ v, RepV ok w t v ∧ xs[j * 5]? = some (.string n) ∧ ∀ k, k < 4 → xs[j * 5 + 1 + k]? = v.cells[k]?
  | [], xs, h, j, n, t, hj => by simp at hj
  | (m, u) :: l, xs, h, j, n, t, hj => by
    simp only [RepF] at h
    obtain ⟨v', r, rfl, h1, h2⟩ := h
    cases j with
    | zero =>
      simp at hj; obtain ⟨rfl, rfl⟩ := hj
      refine ⟨v', h1, by simp, ?_⟩
      obtain ⟨la, lc, fa, fc, rfl⟩ := h1.cells
      intro k hk
      have : k = 0 ∨ k = 1 ∨ k = 2 ∨ k = 3 := by omega
      rcases this with rfl | rfl | rfl | rfl <;> simp [Value.cells]
    | succ j =>
      obtain ⟨v, hv, h0, hc⟩ := RepF.at h2 j n t (by simpa using hj)
      obtain ⟨la, lc, fa, fc, rfl⟩ := h1.cells
      refine ⟨v, hv, ?_, fun k hk => ?_⟩
      · rw [← h0, show (j + 1) * 5 = j * 5 + 4 + 1 by omega, List.getElem?_cons_succ, List.getElem?_append_right (by simp [Value.cells])]
        congr 1
      · rw [← hc k hk, show (j + 1) * 5 + 1 + k = (j * 5 + 1 + k + 4) + 1 by omega, List.getElem?_cons_succ, List.getElem?_append_right (by simp [Value.cells])]
        congr 1

/-- A result that lies in memory, in four cells. -/
theorem results_val {fn : Func} {t : Tmp} (h : fn.results = #[.cell t 25]) (tmps : Array Value) (w : World) (g : Nat) {c0 c1 c2 c3 : Value} {ty : TypeId} {m : Nat × Nat} (ht : tmps.getD t undef = .pointer (some ⟨g, 0, none⟩)) (hF : w.heap[g]? = some (.cells #[c0, c1, c2, c3] ty m)) :
    (results fn tmps).run Tryd.prog w = .ok (.agg #[c0, c1, c2, c3]) w := by
  have k0 : w.cell? ⟨g, 0, none⟩ = some c0 := by rw [blk_cell hF]; rfl
  have k1 : w.cell? ⟨g, 1, none⟩ = some c1 := by rw [blk_cell hF]; rfl
  have k2 : w.cell? ⟨g, 2, none⟩ = some c2 := by rw [blk_cell hF]; rfl
  have k3 : w.cell? ⟨g, 3, none⟩ = some c3 := by rw [blk_cell hF]; rfl
  rw [Array.getD_eq_getD_getElem?] at ht
  simp [results, h, go_sem, ht, k0, k1, k2, k3]

/-- What a reading of a value comes to. -/
def VPost (b : Nat) (s : ByteArray) (w : World) (r : Js.R JV) (e : Ending) (w' : World) : Prop :=
  w.grownBy w' (some b) ∧ match r with
  | .ok (t, j) => (∃ v, e = .returned v ∧ RepV (fun k => w.heap.size ≤ k) w' t v) ∧ RdAt w' b s j
  | .error (j, n) => e = .panicked (thrown j n)
theorem VPost.ok {b : Nat} {s : ByteArray} {w w' : World} {t : JV} {j : Nat} {e : Ending} (h : VPost b s w (.ok (t, j)) e w') : (∃ v, e = .returned v ∧ RepV (fun k => w.heap.size ≤ k) w' t v) ∧ RdAt w' b s j ∧ w.grownBy w' (some b) := ⟨h.2.1, h.2.2, h.1⟩
theorem VPost.error {b : Nat} {s : ByteArray} {w w' : World} {n : Int} {j : Nat} {e : Ending} (h : VPost b s w (.error (j, n)) e w') : e = .panicked (thrown j n) ∧ w.grownBy w' (some b) := ⟨h.2, h.1⟩
theorem VPost.mkOk {b : Nat} {s : ByteArray} {w w' : World} {t : JV} {v : Value} {j : Nat} {e : Ending} {r : Js.R JV} (h : r = .ok (t, j)) (he : e = .returned v) (hv : RepV (fun k => w.heap.size ≤ k) w' t v) (hr : RdAt w' b s j) (hg : w.grownBy w' (some b)) : VPost b s w r e w' := by
  subst h; exact ⟨hg, ⟨v, he, hv⟩, hr⟩
theorem VPost.mkErr {b : Nat} {s : ByteArray} {w w' : World} {n : Int} {j : Nat} {e : Ending} {r : Js.R JV} (h : r = .error (j, n)) (he : e = .panicked (thrown j n)) (hg : w.grownBy w' (some b)) : VPost b s w r e w' := by
  subst h; exact ⟨hg, he⟩
end Go.Proofs.YtgnobnbbjekgnaaDoor
