import Derived.Test.YtgnobnbbjekgnaaDoorGet
/- awake, the walk. -/
namespace Go.Proofs.YtgnobnbbjekgnaaDoor
open Go.RowKit
set_option linter.unusedVariables false

abbrev aw1 : ByteArray := ⟨#[123, 34, 97, 34, 58, 91, 49, 44, 45, 48, 46, 53, 101, 43, 51, 44, 34, 34, 93, 44, 34, 98, 34, 58, 110, 117, 108, 108, 44, 34, 97, 34, 58, 116, 114, 117, 101, 125]⟩
abbrev aw2 : ByteArray := ⟨#[34, 92, 117, 48, 48, 101, 57, 92, 117, 68, 56, 51, 68, 92, 117, 68, 69, 48, 48, 92, 117, 100, 56, 48, 48, 120, 92, 117, 68, 67, 48, 48, 92, 47, 34]⟩
abbrev aw3 : ByteArray := ⟨#[91, 49, 44, 93]⟩
abbrev aw4 : ByteArray := ⟨#[48, 49]⟩
theorem awp1 : Js.parse aw1.data.toList = (.mk 6 ⟨#[]⟩ [] [(⟨#[97]⟩, .mk 2 ⟨#[]⟩ [] []), (⟨#[98]⟩, .mk 0 ⟨#[]⟩ [] [])], 0, 0) := by decide +kernel
theorem awp2 : Js.parse aw2.data.toList = (.mk 4 ⟨#[195, 169, 240, 159, 152, 128, 239, 191, 189, 120, 239, 191, 189, 47]⟩ [] [], 0, 0) := by decide +kernel
theorem awp3 : Js.parse aw3.data.toList = (JV.null, 3, 30) := by decide +kernel
theorem awp4 : Js.parse aw4.data.toList = (JV.null, 1, 30) := by decide +kernel

/-- What awake asks of the first text: its object. -/
theorem aw_p1 : ∃ T1 T3 : JV, bndV 262144 T1 ∧ JV.get T1 ⟨#[97]⟩ = some T3 ∧ T3.kind = 2 ∧ T1.fields.length = 2 ∧ ∀ wx, Env wx → Calls Tryd.prog 7 #[.string aw1] wx fun e w' => (∃ v, e = .returned (.tuple #[v, .int .i64 0, .int .i64 0]) ∧ RepV (fun k => wx.heap.size ≤ k) w' T1 v) ∧ Below wx.heap.size wx w' :=
  ⟨.mk 6 ⟨#[]⟩ [] [(⟨#[97]⟩, .mk 2 ⟨#[]⟩ [] []), (⟨#[98]⟩, .mk 0 ⟨#[]⟩ [] [])], .mk 2 ⟨#[]⟩ [] [], by simp [bndV, bndL, bndF], by decide +kernel, rfl, rfl, fun wx h => by
    have := parse_calls aw1 wx (by decide) h
    rw [awp1] at this
    exact this⟩
theorem aw_p2 : ∃ T2 : JV, T2.text = ⟨#[195, 169, 240, 159, 152, 128, 239, 191, 189, 120, 239, 191, 189, 47]⟩ ∧ ∀ wx, Env wx → Calls Tryd.prog 7 #[.string aw2] wx fun e w' => (∃ v, e = .returned (.tuple #[v, .int .i64 0, .int .i64 0]) ∧ RepV (fun k => wx.heap.size ≤ k) w' T2 v) ∧ Below wx.heap.size wx w' :=
  ⟨_, rfl, fun wx h => by
    have := parse_calls aw2 wx (by decide) h
    rw [awp2] at this
    exact this⟩
theorem aw_p3 (wx : World) (h : Env wx) : Calls Tryd.prog 7 #[.string aw3] wx fun e w' => (∃ v, e = .returned (.tuple #[v, .int .i64 3, .int .i64 30]) ∧ RepV (fun k => wx.heap.size ≤ k) w' JV.null v) ∧ Below wx.heap.size wx w' := by
  have := parse_calls aw3 wx (by decide) h
  rw [awp3] at this
  exact this
theorem aw_p4 (wx : World) (h : Env wx) : Calls Tryd.prog 7 #[.string aw4] wx fun e w' => (∃ v, e = .returned (.tuple #[v, .int .i64 1, .int .i64 30]) ∧ RepV (fun k => wx.heap.size ≤ k) w' JV.null v) ∧ Below wx.heap.size wx w' := by
  have := parse_calls aw4 wx (by decide) h
  rw [awp4] at this
  exact this
end Go.Proofs.YtgnobnbbjekgnaaDoor
