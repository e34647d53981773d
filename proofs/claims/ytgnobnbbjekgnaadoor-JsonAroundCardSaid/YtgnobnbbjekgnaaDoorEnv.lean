import Derived.Test.YtgnobnbbjekgnaaDoorEsc
import Derived.Test.YtgnobnbbjekgnaaDoorRows
import Derived.Lib.LaidU8T
import Derived.LaidLaws
import Derived.LaidMore
import Derived.Lay
/- What the rows' list of variables gives the walks. -/
namespace Go.Proofs.YtgnobnbbjekgnaaDoor
open Go.RowKit
set_option linter.unusedVariables false

theorem first_eq : Go.Pinned.utf8First = Lib.firstData := by kernel_rfl
theorem accept_eq : (Rows.laid_unicode_utf8_acceptRanges : DataW Unit) = Lib.acceptData := by kernel_rfl
theorem env_tabs {W : World} (h1 : Lib.VarReads Tryd.prog W "unicode/utf8.first" Rows.laid_unicode_utf8_first) (h2 : Lib.VarReads Tryd.prog W "unicode/utf8.acceptRanges" Rows.laid_unicode_utf8_acceptRanges) :
    Lib.Utf8Tabs 1 2 W := by
  rw [accept_eq] at h2
  rw [show Rows.laid_unicode_utf8_first = Lib.firstData from first_eq] at h1
  exact utf8Tabs_of_readsT (U8Types.of260 Tryd.lays260) ⟨by kernel_rfl, by kernel_rfl, by kernel_rfl, by kernel_rfl, by kernel_rfl, by kernel_rfl, by kernel_rfl⟩ h1 h2
theorem env_syn {W : World} (h : Lib.VarReads Tryd.prog W "strconv.ErrSyntax" Rows.laid_strconv_ErrSyntax) : ∃ ev, W.cell? ⟨3, 0, none⟩ = some ev ∧ (ev = .nilIface ∨ ∃ te pe, ev = .iface te pe) := by
  obtain ⟨g, t, cs, fuel, p, hg, hty, hvar, hd⟩ := h
  obtain rfl := Option.some.inj ((show Tryd.prog.globalNamed "strconv.ErrSyntax" = some 3 by kernel_rfl).symm.trans hg)
  obtain rfl := Option.some.inj ((show (Tryd.prog.globals[3]?).map (·.type) = some 61 by kernel_rfl).symm.trans hty)
  obtain ⟨f', u, v, hcs, _, _⟩ := iface_of_trod Tryd.underlying61 hd
  have := World.var?_cell hg hvar 0
  have e : cs = #[.iface u v] := by rw [← Array.toList_inj, hcs]
  exact ⟨.iface u v, by rw [this, e]; rfl, .inr ⟨u, v, rfl⟩⟩
end Go.Proofs.YtgnobnbbjekgnaaDoor
