import Derived.Test.YtgnobnbbjekgnaaDoorEse
/- The JSON reader: strings. -/
namespace Go.Proofs.YtgnobnbbjekgnaaDoor
open Go.RowKit
set_option linter.unusedVariables false

/-! ### A character -/
theorem decodeN_bounds (n b0 b1 b2 b3 : Nat) (hn : 0 < n) (h0 : b0 < 256) : 1 ≤ (Lib.decodeN n b0 b1 b2 b3).2 ∧ (Lib.decodeN n b0 b1 b2 b3).2 ≤ n ∧ (Lib.decodeN n b0 b1 b2 b3).2 ≤ 4 ∧ (Lib.decodeN n b0 b1 b2 b3).1 < 1114112 := by
  unfold Lib.decodeN
  repeat' split
  all_goals (simp only; omega)
theorem dec_bounds {s : ByteArray} {i : Nat} (h : i < s.size) : 1 ≤ (Js.dec s.data.toList i).2 ∧ i + (Js.dec s.data.toList i).2 ≤ s.size ∧ (Js.dec s.data.toList i).2 ≤ 4 ∧ (Js.dec s.data.toList i).1 < 1114112 := by
  have := decodeN_bounds (s.data.toList.length - i) (Js.hd s.data.toList i) (Js.hd s.data.toList (i + 1)) (Js.hd s.data.toList (i + 2)) (Js.hd s.data.toList (i + 3)) (by rw [len_data]; omega) (hd_lt _ _)
  unfold Js.dec
  rw [len_data] at this ⊢
  omega
theorem get_hd (s : ByteArray) (k : Nat) : (s.get! k).toNat = Js.hd s.data.toList k := by
  unfold Js.hd
  rcases Nat.lt_or_ge k s.size with h | h
  · rw [List.getD_eq_getElem?_getD, List.getElem?_eq_getElem (by rw [len_data]; exact h)]
    cases s with
    | mk d => show (d[k]!).toNat = _; rw [getElem!_pos d k h]; rfl
  · rw [List.getD_eq_getElem?_getD, List.getElem?_eq_none (by rw [len_data]; exact h)]
    cases s with
    | mk d => show (d[k]!).toNat = _; rw [getElem!_neg d k (by have : d.size ≤ k := h; omega)]; rfl
theorem hd_drop (l : List UInt8) (i k : Nat) : Js.hd (l.drop i) k = Js.hd l (i + k) := by
  unfold Js.hd; rw [List.getD_eq_getElem?_getD, List.getD_eq_getElem?_getD, List.getElem?_drop]
theorem decodeGo_eq {s : ByteArray} {i : Nat} (h : i < s.size) : Lib.decodeGo (s.extract i s.size) = Js.dec s.data.toList i := by
  have hsz : (s.extract i s.size).size = s.size - i := extract_size' s i s.size (Nat.le_refl _)
  unfold Lib.decodeGo
  rw [if_neg (by omega), Lib.decode_at, hsz]
  have hl : (s.extract i s.size).data.toList = s.data.toList.drop i := Lib.extract_to_end s i
  unfold Js.dec
  rw [get_hd, get_hd, get_hd, get_hd, hl, hd_drop, hd_drop, hd_drop, hd_drop, len_data]
  rfl

/-- What 'Next' answers. -/
def nextVal (l : List UInt8) (i : Nat) : Value :=
  if Js.whole l i then .tuple #[.int .i32 ((Js.dec l i).1 : Int), .int .i64 ((Js.dec l i).2 : Int), .bool true] else .tuple #[.int .i32 0, .int .i64 0, .bool false]

set_option maxRecDepth 100000 in
set_option maxHeartbeats 400000 in
theorem next_calls (s : ByteArray) (i : Nat) (hi : i < s.size) (hs : s.size ≤ 9223372036854775000) (w : World) (hT : Lib.Utf8Tabs 1 2 w) :
    Calls Tryd.prog 36 #[.string s, .int .i64 (i : Int)] w fun e w' => e = .returned (nextVal s.data.toList i) ∧ Below w.heap.size w w' := by
  obtain ⟨h1, h2, h3, h4⟩ := dec_bounds hi
  have D := decodeGo_eq hi
  obtain ⟨x, hx⟩ : ∃ x : Int, (((Js.dec s.data.toList i).1 : Nat) : Int) = x := ⟨_, rfl⟩
  obtain ⟨y, hy⟩ : ∃ y : Int, (((Js.dec s.data.toList i).2 : Nat) : Int) = y := ⟨_, rfl⟩
  have DR := Lib.hid (show Calls Tryd.prog 51 #[.string (s.extract i s.size)] w fun e w' => e = .returned (.tuple #[.int .i32 x, .int .i64 y]) ∧ Below w.heap.size w w' by
    have := Tryd.utf8_DecodeRuneInString (s.extract i s.size) w hT
    rw [D, hx, hy] at this
    exact this)
  have x0 : 0 ≤ x := by omega
  have y1 : 1 ≤ y := by omega
  have i0 : (0 : Int) ≤ i := by omega
  have i1 : (i : Int) < s.size := by omega
  have V : nextVal s.data.toList i = if x = 65533 ∧ y = 1 then .tuple #[.int .i32 0, .int .i64 0, .bool false] else .tuple #[.int .i32 x, .int .i64 y, .bool true] := by
    unfold nextVal Js.whole
    rw [← hx, ← hy, len_data]
    by_cases he : Js.dec s.data.toList i = (65533, 1)
    · rw [he]; simp
    · have he' : ¬(((Js.dec s.data.toList i).1 : Int) = 65533 ∧ ((Js.dec s.data.toList i).2 : Int) = 1) := fun h => he (Prod.ext (by have := h.1; simp only; omega) (by have := h.2; simp only; omega))
      rw [if_neg he']; simp [he, hi]
  rw [V]
  clear V D hx hy h1 h2 h3 h4
  by_cases c1 : x = 65533
  · by_cases c2 : y = 1
    · have e1 := eq_t c1
      have e2 := eq_t c2
      rw [if_pos ⟨c1, c2⟩]
      clear c1 c2
      go_enter Tryd.func36, Tryd.ntmps36
      go_wp2_with (go_at_call 51; refine DR.out.mono ?_; rintro e w' ⟨rfl, hb⟩)
      go_ret3
      exact ⟨rfl, hb⟩
    · have e1 := eq_t c1
      have e2 := eq_f c2
      rw [if_neg (fun h => c2 h.2)]
      clear c1 c2
      go_enter Tryd.func36, Tryd.ntmps36
      go_wp2_with (go_at_call 51; refine DR.out.mono ?_; rintro e w' ⟨rfl, hb⟩)
      go_ret3
      exact ⟨rfl, hb⟩
  · have e1 := eq_f c1
    rw [if_neg (fun h => c1 h.1)]
    clear c1
    go_enter Tryd.func36, Tryd.ntmps36
    go_wp2_with (go_at_call 51; refine DR.out.mono ?_; rintro e w' ⟨rfl, hb⟩)
    go_ret3
    exact ⟨rfl, hb⟩

/-! ### A builder beside -/
theorem builderAt_kept {T e : TypeId} {B bb : Nat} {p : Value} {bs : List Value} {w w' : World} {row : Option Nat} (h : Lib.BuilderAtF T e B bb p bs w) (hg : w.grownBy w' row) (hr : ∀ j, row = some j → j < B) : Lib.BuilderAtF T e B bb p bs w' := by
  obtain ⟨hB, v, hb, hown, hne⟩ := h
  refine ⟨hB, v, blk_grown hb hg (fun e => by have := hr _ e.symm; omega), hown.kept hg ?_, hne⟩
  rcases hv : v.ownBlock with _ | k
  · exact .inl rfl
  · exact .inr (fun e => by have := hr k e.symm; have := (hown.lt k hv).1; omega)
theorem builder_kept {T e : TypeId} {B bb : Nat} {bs : List Value} {w w' : World} {row : Option Nat} (h : Lib.IsBuilderF T e B bb bs w) (hg : w.grownBy w' row) (hr : ∀ j, row = some j → j < B) : Lib.IsBuilderF T e B bb bs w' :=
  h.elim (fun x => .inl (builderAt_kept x hg hr)) (fun x => .inr (builderAt_kept x hg hr))
theorem gb_belowB {a w w' : World} {row : Option Nat} {B : Nat} (h : a.grownBy w row) (hb : Below B w w') (hB : a.heap.size ≤ B) : a.grownBy w' row :=
  ⟨hb.os.trans h.os, hb.tape.trans h.tape, hb.output.trans h.output, Nat.le_trans h.size hb.size, fun k hk hne => (hb.block k (by omega)).trans (h.block k hk hne)⟩
end Go.Proofs.YtgnobnbbjekgnaaDoor
