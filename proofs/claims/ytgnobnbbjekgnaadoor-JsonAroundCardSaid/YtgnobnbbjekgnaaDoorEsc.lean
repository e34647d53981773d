import Derived.Test.YtgnobnbbjekgnaaDoorPu
import Derived.StillTailTactics
/- The JSON reader: escapes; characters. -/
namespace Go.Proofs.YtgnobnbbjekgnaaDoor
open Go.RowKit
set_option linter.unusedVariables false

/-- What the library's variables hold. -/
structure Env (w : World) : Prop where
  tabs : Lib.Utf8Tabs 1 2 w
  syn : ∃ ev, w.cell? ⟨3, 0, none⟩ = some ev ∧ (ev = .nilIface ∨ ∃ te pe, ev = .iface te pe)
def NotG (b : Nat) : Prop := b ≠ 1 ∧ b ≠ 2 ∧ b ≠ 3
theorem cell_lt {w : World} {a : Addr} {v : Value} (h : w.cell? a = some v) : a.block < w.heap.size := World.block_lt_of_cell? w a h
theorem Env.grown {w w' : World} {row : Option Nat} (h : Env w) (hg : w.grownBy w' row) (hr : ∀ j, row = some j → NotG j) : Env w' := by
  have n1 : some 1 ≠ row := fun e => (hr _ e.symm).1 rfl
  have n2 : some 2 ≠ row := fun e => (hr _ e.symm).2.1 rfl
  have n3 : some 3 ≠ row := fun e => (hr _ e.symm).2.2 rfl
  refine ⟨⟨fun c hc => hg.cell (h.tabs.1 c hc) n1, fun i hi => ⟨hg.cell (h.tabs.2 i hi).1 n2, hg.cell (h.tabs.2 i hi).2 n2⟩⟩, ?_⟩
  obtain ⟨ev, hc, he⟩ := h.syn
  exact ⟨ev, hg.cell hc n3, he⟩
theorem Env.below {w w' : World} (h : Env w) (hb : Below w.heap.size w w') : Env w' := h.grown (gb_of_below hb none) (fun j e => by cases e)
theorem Env.new {w : World} (h : Env w) {b : Nat} (hb : w.heap.size ≤ b) : NotG b := by
  have h1 := cell_lt (h.tabs.1 0 (by decide))
  have h2 := cell_lt (h.tabs.2 0 (by decide)).1
  obtain ⟨ev, h3, _⟩ := h.syn
  have h3 := cell_lt h3
  simp only at h1 h2 h3
  unfold NotG
  omega
theorem Env.drewN {w : World} (h : Env w) (n : Nat) : Env (w.drewN n) := ⟨h.tabs, h.syn⟩

theorem strconv_calls (s : ByteArray) (w : World) (h0 : 0 < s.size) (h8 : s.size ≤ 4) (hE : Env w) :
    Calls Tryd.prog 56 #[.string s, .int .i64 16, .int .i64 32] w fun e w' => (∃ ev, e = .returned (.tuple #[.int .u64 (((hexL s.data.toList 0).getD 0 : Nat) : Int), ev]) ∧ (ev = .nilIface ↔ (hexL s.data.toList 0).isSome = true) ∧ (ev = .nilIface ∨ ∃ b, ev = .iface 95 (.pointer (some ⟨b, 0, none⟩)))) ∧ Below w.heap.size w w' := by
  obtain ⟨R, hR⟩ : ∃ R, hexL s.data.toList 0 = R := ⟨_, rfl⟩
  have I := inner_calls s w h0 h8
  rw [hR] at I ⊢
  clear hR
  rcases R with _ | n
  · have II := Lib.hid I
    clear I
    obtain ⟨ev, hc, he⟩ := hE.syn
    go_enter Tryd.func56, Tryd.ntmps56
    go_wp2_with fail
    refine II.out.mono ?_
    rintro e w' ⟨rfl, hb⟩
    have hc' := hb.cell (p := ⟨3, 0, none⟩) (cell_lt hc) |>.trans hc
    unfold puVal
    go_wp2_with fail
    refine (Tryd.strconv_toError_syntax _ s _ _ ev _ (by omega) hc' he).mono ?_
    rintro e w2 ⟨N, rfl, -, -, hb2⟩
    go_wp2_with fail
    go_ret2
    exact ⟨⟨_, rfl, by simp, .inr ⟨N, rfl⟩⟩, hb.trans (hb2.mono hb.size)⟩
  · have II := Lib.hid I
    clear I
    go_enter Tryd.func56, Tryd.ntmps56
    go_wp2_with fail
    refine II.out.mono ?_
    rintro e w' ⟨rfl, hb⟩
    unfold puVal
    go_wp2_with fail
    go_ret2
    exact ⟨⟨_, rfl, by simp, .inl rfl⟩, hb⟩

set_option maxHeartbeats 400000 in
theorem joined_int (x y r : Int) (hx0 : 0 ≤ x) (hx1 : x < 65536) (hy0 : 0 ≤ y) (hy1 : y < 65536)
    (hr : r = if x < 55296 ∨ 56320 ≤ x ∨ y < 56320 ∨ 57344 ≤ y then 65533 else 65536 + (x - 55296) * 1024 + y - 56320) (w : World) :
    Calls Tryd.prog 50 #[.int .i32 x, .int .i32 y] w fun e w' => e = .returned (.int .i32 r) ∧ w = w' := by
  by_cases h1 : x < 55296
  · rw [if_pos (.inl h1)] at hr
    have R := Lib.hid hr
    clear hr
    go_enter Tryd.func50, Tryd.ntmps50
    go_wp2
    go_ret
    exact ⟨by rw [R.out]; rfl, rfl⟩
  by_cases h2 : 56320 ≤ x
  · rw [if_pos (.inr (.inl h2))] at hr
    have R := Lib.hid hr
    clear hr
    have k0 : 55296 ≤ x := by omega
    clear h1
    go_enter Tryd.func50, Tryd.ntmps50
    go_wp2
    go_ret
    exact ⟨by rw [R.out]; rfl, rfl⟩
  by_cases h3 : y < 56320
  · rw [if_pos (.inr (.inr (.inl h3)))] at hr
    have R := Lib.hid hr
    clear hr
    have k0 : 55296 ≤ x := by omega
    have k1 : x < 56320 := by omega
    clear h1 h2
    go_enter Tryd.func50, Tryd.ntmps50
    go_wp2
    go_ret
    exact ⟨by rw [R.out]; rfl, rfl⟩
  by_cases h4 : 57344 ≤ y
  · rw [if_pos (.inr (.inr (.inr h4)))] at hr
    have R := Lib.hid hr
    clear hr
    have k0 : 55296 ≤ x := by omega
    have k1 : x < 56320 := by omega
    have k2 : 56320 ≤ y := by omega
    clear h1 h2 h3
    go_enter Tryd.func50, Tryd.ntmps50
    go_wp2
    go_ret
    exact ⟨by rw [R.out]; rfl, rfl⟩
  rw [if_neg (by omega)] at hr
  have R := Lib.hid hr
  have k0 : 55296 ≤ x := by omega
  have k1 : x < 56320 := by omega
  have k2 : 56320 ≤ y := by omega
  have k3 : y < 57344 := by omega
  clear hr h1 h2 h3 h4 hx0 hx1 hy0 hy1
  go_enter Tryd.func50, Tryd.ntmps50
  go_wp2
  go_ret
  exact ⟨by rw [R.out]; rfl, rfl⟩
theorem joined_calls (h l : Nat) (hh : h < 65536) (hl : l < 65536) (w : World) :
    Calls Tryd.prog 50 #[.int .i32 (h : Int), .int .i32 (l : Int)] w fun e w' => e = .returned (.int .i32 ((Js.joined h l : Nat) : Int)) ∧ w = w' := by
  refine joined_int _ _ _ (by omega) (by omega) (by omega) (by omega) ?_ w
  unfold Js.joined
  split <;> split <;> omega
end Go.Proofs.YtgnobnbbjekgnaaDoor
