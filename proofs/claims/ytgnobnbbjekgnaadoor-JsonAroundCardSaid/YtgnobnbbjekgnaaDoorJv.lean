/- Plain Lean: JSON values as trees, and what the program's parser answers, as functions on lists of bytes. -/
namespace Go.Proofs.YtgnobnbbjekgnaaDoor

/-- A JSON value: kind, text, list, fields. -/
inductive JV where
  | mk (k : Int) (t : ByteArray) (l : List JV) (f : List (ByteArray × JV))

namespace JV
def kind : JV → Int | mk k _ _ _ => k
def text : JV → ByteArray | mk _ t _ _ => t
def list : JV → List JV | mk _ _ l _ => l
def fields : JV → List (ByteArray × JV) | mk _ _ _ f => f
def null : JV := mk 0 ⟨#[]⟩ [] []

theorem induct {P : JV → Prop} (h : ∀ k t l f, (∀ v, v ∈ l → P v) → (∀ n v, (n, v) ∈ f → P v) → P (mk k t l f)) : ∀ v, P v := by
  intro v
  refine JV.rec (motive_1 := P) (motive_2 := fun l => ∀ v, v ∈ l → P v) (motive_3 := fun f => ∀ n v, (n, v) ∈ f → P v) (motive_4 := fun p => P p.2) ?_ ?_ ?_ ?_ ?_ ?_ v
  · intro k t l f h1 h2; exact h k t l f h1 h2
  · intro v hv; cases hv
  · intro x xs h1 h2 v hv
    rcases List.mem_cons.1 hv with rfl | hv
    · exact h1
    · exact h2 v hv
  · intro n v hv; cases hv
  · intro x xs h1 h2 n v hv
    rcases List.mem_cons.1 hv with hv | hv
    · subst hv; exact h1
    · exact h2 n v hv
  · intro n v h1; exact h1

mutual
/-- Are two values the same, field by field? -/
def same : JV → JV → Bool
  | mk k t l f, mk k' t' l' f' => decide (k = k') && decide (t = t') && sameL l l' && sameF f f'
def sameL : List JV → List JV → Bool
  | [], [] => true
  | a :: r, b :: r' => same a b && sameL r r'
  | _, _ => false
def sameF : List (ByteArray × JV) → List (ByteArray × JV) → Bool
  | [], [] => true
  | (n, a) :: r, (n', b) :: r' => decide (n = n') && same a b && sameF r r'
  | _, _ => false
end

theorem same_iff : ∀ a b : JV, same a b = true ↔ a = b := by
  intro a
  refine JV.rec (motive_1 := fun a => ∀ b, same a b = true ↔ a = b) (motive_2 := fun l => ∀ l', sameL l l' = true ↔ l = l') (motive_3 := fun f => ∀ f', sameF f f' = true ↔ f = f') (motive_4 := fun p => ∀ b, same p.2 b = true ↔ p.2 = b) ?_ ?_ ?_ ?_ ?_ ?_ a
  · intro k t l f h1 h2 b
    cases b with
    | mk k' t' l' f' => simp [same, h1, h2, and_assoc]
  · intro l'; cases l' <;> simp [sameL]
  · intro x xs h1 h2 l'
    cases l' <;> simp [sameL, h1, h2]
  · intro l'; cases l' <;> simp [sameF]
  · intro x xs h1 h2 f'
    obtain ⟨n, v⟩ := x
    cases f' with
    | nil => simp [sameF]
    | cons y ys => obtain ⟨n', v'⟩ := y; have := h1 v'; simp only at this; simp [sameF, h2, this]
  · intro n v h1 b; exact h1 b

theorem same_refl (a : JV) : same a a = true := (same_iff a a).2 rfl
instance : DecidableEq JV := fun a b => if h : same a b = true then .isTrue ((same_iff a b).1 h) else .isFalse (fun e => h ((same_iff a b).2 e))

/-- The value of a field: the first of that name. -/
def getF (n : ByteArray) : List (ByteArray × JV) → Option JV
  | [] => none
  | (m, v) :: r => if m = n then some v else getF n r
def get (v : JV) (n : ByteArray) : Option JV := if v.kind = 6 then getF n v.fields else none
end JV
end Go.Proofs.YtgnobnbbjekgnaaDoor
