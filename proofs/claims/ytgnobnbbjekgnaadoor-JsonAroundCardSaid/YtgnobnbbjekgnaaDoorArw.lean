import Derived.Test.YtgnobnbbjekgnaaDoorAwl
import Derived.Test.YtgnobnbbjekgnaaDoorSam
import Derived.Test.YtgnobnbbjekgnaaDoorBnv
import Derived.Test.YtgnobnbbjekgnaaDoorAro
import Derived.Deep.RegionHeld3
import Derived.Laws.Concat
/- JsonAround, the walk. -/
namespace Go.Proofs.YtgnobnbbjekgnaaDoor
open Go.RowKit
set_option linter.unusedVariables false

theorem app_data (a b : ByteArray) : (a ++ b).data.toList = a.data.toList ++ b.data.toList := by rw [ByteArray.data_append]; simp
/-- A box that was just made for a value. -/
abbrev boxOf (t : JV) (la fa : Option Addr) (lc fc : Nat) : Obj := .cells #[.int .u8 t.kind, .string t.text, .slice la t.list.length lc, .slice fa t.fields.length fc] 25

set_option maxRecDepth 100000 in
set_option maxHeartbeats 4000000 in
theorem around_calls (s : ByteArray) (w : World) (hs0 : s.size ≤ 9223372036854775000) (hE : Env w) :
    Calls Tryd.prog 5 #[.string s] w fun e w' => e = .returned (.bool true) ∧ Below w.heap.size w w' := by
  by_cases hlen : 20000 < s.size
  · have k1 : (20000 : Int) < (s.size : Int) := by omega
    clear hlen
    go_enter Tryd.func5, Tryd.ntmps5
    go_wp2_with fail
    refine (awake_calls _ hE).mono ?_
    rintro e w1 ⟨rfl, hb1⟩
    go_wp2_with fail
    go_ret
    exact ⟨rfl, hb1⟩
  have k1 : ¬((20000 : Int) < (s.size : Int)) := by omega
  have hl : s.data.toList.length ≤ 20000 := by rw [len_data]; omega
  have q1 : ∀ w : World, (Op.stringOp .add ⟨#[10, 32, 9]⟩ s).run Tryd.prog w = .ok (.string (⟨#[10, 32, 9]⟩ ++ s)) w := fun w => run_string_add_sum w _ _ (by show 3 + _ ≤ _; omega)
  have q2 : ∀ w : World, (Op.stringOp .add (⟨#[10, 32, 9]⟩ ++ s) ⟨#[13, 32]⟩).run Tryd.prog w = .ok (.string (⟨#[10, 32, 9]⟩ ++ s ++ ⟨#[13, 32]⟩)) w := fun w => run_string_add_sum w _ _ (by rw [ByteArray.size_append]; show 3 + _ + 2 ≤ _; omega)
  have PA := fun wx (h : Env wx) => parse_calls s wx hs0 h
  have hsp : (⟨#[10, 32, 9]⟩ ++ s ++ ⟨#[13, 32]⟩ : ByteArray).data.toList = Js.spaced s.data.toList := by rw [app_data, app_data]; simp [Js.spaced]
  have PB := fun wx (h : Env wx) => parse_calls (⟨#[10, 32, 9]⟩ ++ s ++ ⟨#[13, 32]⟩) wx (by rw [ByteArray.size_append, ByteArray.size_append]; show 3 + _ + 2 ≤ _; omega) h
  simp only [hsp] at PB
  by_cases hn : ¬ (Js.parse s.data.toList).2.2 = 0
  · have hn2 : (Js.parse (Js.spaced s.data.toList)).2.2 ≠ 0 := fun e => hn (Js.spaced_back (by omega) e)
    rcases hp : Js.parse s.data.toList with ⟨t, i, n⟩
    rcases hp2 : Js.parse (Js.spaced s.data.toList) with ⟨t2, i2, n2⟩
    rw [hp] at hn
    rw [hp2] at hn2
    simp only [hp] at PA
    simp only [hp2] at PB
    have n1 := eq_f (show n ≠ 0 from hn)
    have n2' := eq_f (show n2 ≠ 0 from hn2)
    have n3 := ne_t (show n ≠ 0 from hn)
    have PA := Lib.hid PA
    have PB := Lib.hid PB
    clear hp hp2 hn hn2 hl hlen hsp
    go_enter Tryd.func5, Tryd.ntmps5
    go_wp2_with fail
    refine (awake_calls _ hE).mono ?_
    rintro e w1 ⟨rfl, hb1⟩
    have E1 := hE.below hb1
    go_wp2_with fail
    refine (PA.out _ E1).mono ?_
    rintro e w2 ⟨⟨v, rfl, hv⟩, hb2⟩
    obtain ⟨la, lc, fa, fc, rfl⟩ := hv.cells
    have B2 := hb1.trans (hb2.mono hb1.size)
    have B3 := B2.alloc B2.size (boxOf t la fa lc fc)
    have E3 := (E1.below hb2).grown (World.grownBy_alloc w2 (boxOf t la fa lc fc) none) (fun j e => by cases e)
    clear hv hb2 hb1 E1 B2
    go_wp2_with fail
    refine (PB.out _ E3).mono ?_
    rintro e w4 ⟨⟨v2, rfl, hv2⟩, hb4⟩
    obtain ⟨ma, mc, na, nc, rfl⟩ := hv2.cells
    have B4 := B3.trans (hb4.mono B3.size)
    clear hv2 hb4 E3 B3
    go_wp2_with fail
    go_ret
    exact ⟨rfl, B4.alloc B4.size _⟩
  have hn := Decidable.not_not.1 hn
  have hsf := Js.spaced_fine (by omega) hn
  have hW := Js.within_all (by omega) hn
  have hbn := Js.parse_bnv s.data.toList
  simp only [hsf] at PB
  obtain ⟨v0, hpv⟩ : ∃ v0, Js.parse s.data.toList = (v0, 0, 0) := by
    obtain ⟨v, j, _, _, _, hp⟩ := Js.parse_ok (by omega) hn
    exact ⟨v, hp⟩
  rw [hpv] at hW hbn
  simp only [hpv] at PA PB
  have q3 : ∀ w : World, (Op.stringOp .add ⟨#[91, 32, 49, 32, 44]⟩ s).run Tryd.prog w = .ok (.string (⟨#[91, 32, 49, 32, 44]⟩ ++ s)) w := fun w => run_string_add_sum w _ _ (by show 5 + _ ≤ _; omega)
  have q4 : ∀ w : World, (Op.stringOp .add (⟨#[91, 32, 49, 32, 44]⟩ ++ s) ⟨#[93]⟩).run Tryd.prog w = .ok (.string (⟨#[91, 32, 49, 32, 44]⟩ ++ s ++ ⟨#[93]⟩)) w := fun w => run_string_add_sum w _ _ (by rw [ByteArray.size_append]; show 5 + _ + 1 ≤ _; omega)
  have q5 : ∀ w : World, (Op.stringOp .add ⟨#[123, 34, 107, 34, 32, 58]⟩ s).run Tryd.prog w = .ok (.string (⟨#[123, 34, 107, 34, 32, 58]⟩ ++ s)) w := fun w => run_string_add_sum w _ _ (by show 6 + _ ≤ _; omega)
  have q6 : ∀ w : World, (Op.stringOp .add (⟨#[123, 34, 107, 34, 32, 58]⟩ ++ s) ⟨#[44, 32, 34, 107, 34, 58]⟩).run Tryd.prog w = .ok (.string (⟨#[123, 34, 107, 34, 32, 58]⟩ ++ s ++ ⟨#[44, 32, 34, 107, 34, 58]⟩)) w := fun w => run_string_add_sum w _ _ (by rw [ByteArray.size_append]; show 6 + _ + 6 ≤ _; omega)
  have q7 : ∀ w : World, (Op.stringOp .add (⟨#[123, 34, 107, 34, 32, 58]⟩ ++ s ++ ⟨#[44, 32, 34, 107, 34, 58]⟩) s).run Tryd.prog w = .ok (.string (⟨#[123, 34, 107, 34, 32, 58]⟩ ++ s ++ ⟨#[44, 32, 34, 107, 34, 58]⟩ ++ s)) w := fun w => run_string_add_sum w _ _ (by rw [ByteArray.size_append, ByteArray.size_append]; show 6 + _ + 6 + _ ≤ _; omega)
  have q8 : ∀ w : World, (Op.stringOp .add (⟨#[123, 34, 107, 34, 32, 58]⟩ ++ s ++ ⟨#[44, 32, 34, 107, 34, 58]⟩ ++ s) ⟨#[125]⟩).run Tryd.prog w = .ok (.string (⟨#[123, 34, 107, 34, 32, 58]⟩ ++ s ++ ⟨#[44, 32, 34, 107, 34, 58]⟩ ++ s ++ ⟨#[125]⟩)) w := fun w => run_string_add_sum w _ _ (by rw [ByteArray.size_append, ByteArray.size_append, ByteArray.size_append]; show 6 + _ + 6 + _ + 1 ≤ _; omega)
  have hsl : (⟨#[91, 32, 49, 32, 44]⟩ ++ s ++ ⟨#[93]⟩ : ByteArray).data.toList = Js.inList s.data.toList := by rw [app_data, app_data]; simp [Js.inList]
  have hso : (⟨#[123, 34, 107, 34, 32, 58]⟩ ++ s ++ ⟨#[44, 32, 34, 107, 34, 58]⟩ ++ s ++ ⟨#[125]⟩ : ByteArray).data.toList = Js.inObj s.data.toList := by rw [app_data, app_data, app_data, app_data]; simp [Js.inObj]
  have PL := fun wx (h : Env wx) => parse_calls (⟨#[91, 32, 49, 32, 44]⟩ ++ s ++ ⟨#[93]⟩) wx (by rw [ByteArray.size_append, ByteArray.size_append]; show 5 + _ + 1 ≤ _; omega) h
  have PO := fun wx (h : Env wx) => parse_calls (⟨#[123, 34, 107, 34, 32, 58]⟩ ++ s ++ ⟨#[44, 32, 34, 107, 34, 58]⟩ ++ s ++ ⟨#[125]⟩) wx (by rw [ByteArray.size_append, ByteArray.size_append, ByteArray.size_append, ByteArray.size_append]; show 6 + _ + 6 + _ + 1 ≤ _; omega) h
  simp only [hsl] at PL
  simp only [hso] at PO
  have SV := fun va vb wx (h1 : SeeV (fun _ => True) True wx v0 va) (h2 : SeeV (fun _ => True) True wx v0 vb) => same_calls v0 v0 (fun _ => True) (fun _ => True) True True va vb wx hbn hbn h1 h2
  simp only [JV.same_refl] at SV
  have SV := Lib.hid SV
  have PA := Lib.hid PA
  have PB := Lib.hid PB
  have W := Lib.hid hW
  have BN := Lib.hid hbn
  clear hsp hsl hso hsf hn hl hlen hW hpv hbn
  rcases W.out with ⟨h1, h2⟩ | ⟨h1, h2, h3, h4⟩
  · obtain ⟨TL, hTL⟩ : ∃ TL, (JV.mk 5 ⟨#[]⟩ [.mk 3 ⟨#[49]⟩ [] [], v0] []) = TL := ⟨_, rfl⟩
    obtain ⟨TO, hTO⟩ : ∃ TO, (JV.mk 6 ⟨#[]⟩ [] [(⟨#[107]⟩, v0)]) = TO := ⟨_, rfl⟩
    have KL := Lib.hid (show TL.kind = 5 ∧ TL.list.length = 2 by rw [← hTL]; exact ⟨rfl, rfl⟩)
    have KO := Lib.hid (show TO.kind = 6 ∧ TO.fields.length = 1 by rw [← hTO]; exact ⟨rfl, rfl⟩)
    rw [hTL] at h1
    rw [hTO] at h2
    simp only [h1] at PL
    simp only [h2] at PO
    have PL := Lib.hid PL
    have PO := Lib.hid PO
    have HTL := Lib.hid hTL
    have hbO := Js.parse_bnv (Js.inObj s.data.toList)
    rw [h2] at hbO
    have GC := fun ok fr v wx (h : SeeV ok fr wx TO v) => get_calls TO ⟨#[107]⟩ ok fr v wx hbO h
    have hg : JV.get TO ⟨#[107]⟩ = some v0 := by rw [← hTO]; simp [JV.get, JV.kind, JV.fields, JV.getF]
    have hgk : gKind (some v0) = v0 := rfl
    simp only [hg, hgk] at GC
    have GC := Lib.hid GC
    clear h1 h2 W hTL hTO hg hgk hbO
    go_enter Tryd.func5, Tryd.ntmps5
    go_wp2_with fail
    refine (awake_calls _ hE).mono ?_
    rintro e w1 ⟨rfl, hb1⟩
    have E1 := hE.below hb1
    go_wp2_with fail
    refine (PA.out _ E1).mono ?_
    rintro e w2 ⟨⟨v, rfl, hv⟩, hb2⟩
    obtain ⟨la, lc, fa, fc, rfl⟩ := hv.cells
    have B2 := hb1.trans (hb2.mono hb1.size)
    have B3 := B2.alloc B2.size (boxOf v0 la fa lc fc)
    have E3 := (E1.below hb2).grown (World.grownBy_alloc w2 (boxOf v0 la fa lc fc) none) (fun j e => by cases e)
    have N3 := blk_new w2 (boxOf v0 la fa lc fc)
    have V3 := (SeeV.move (ok' := fun _ => True) (fr' := True) id (fun _ _ _ => trivial) (Nat.le_refl _) (fun _ _ _ => rfl) _ _ (RepV.see _ _ hv)).alloc (boxOf v0 la fa lc fc)
    clear hv hb2 hb1 E1 B2
    go_wp2_with fail
    generalize w2.alloc (boxOf v0 la fa lc fc) = x2 at *
    refine (PB.out _ E3).mono ?_
    rintro e w4 ⟨⟨v2, rfl, hv2⟩, hb4⟩
    obtain ⟨ma, mc, na, nc, rfl⟩ := hv2.cells
    have B4 := B3.trans (hb4.mono B3.size)
    have B5 := B4.alloc B4.size (boxOf v0 ma na mc nc)
    have E5 := (E3.below hb4).grown (World.grownBy_alloc w4 (boxOf v0 ma na mc nc) none) (fun j e => by cases e)
    have N5 := blk_alloc (blk_below N3 hb4) (boxOf v0 ma na mc nc)
    have M5 := blk_new w4 (boxOf v0 ma na mc nc)
    have V5 := (V3.below hb4).alloc (boxOf v0 ma na mc nc)
    have U5 := (SeeV.move (ok' := fun _ => True) (fr' := True) id (fun _ _ _ => trivial) (Nat.le_refl _) (fun _ _ _ => rfl) _ _ (RepV.see _ _ hv2)).alloc (boxOf v0 ma na mc nc)
    clear hv2 hb4 E3 B3 B4 N3 V3
    have a0 := (blk_cell N5 0).trans rfl
    have a1 := (blk_cell N5 1).trans rfl
    have a2 := (blk_cell N5 2).trans rfl
    have a3 := (blk_cell N5 3).trans rfl
    have b0 := (blk_cell M5 0).trans rfl
    have b1 := (blk_cell M5 1).trans rfl
    have b2 := (blk_cell M5 2).trans rfl
    have b3 := (blk_cell M5 3).trans rfl
    go_wp2_with fail
    generalize w4.alloc (boxOf v0 ma na mc nc) = x4 at *
    refine (SV.out _ _ _ V5 U5).mono ?_
    rintro e w6 ⟨rfl, hb6⟩
    have E6 := E5.below hb6
    have B6 := B5.trans (hb6.mono B5.size)
    have N6 := blk_below N5 hb6
    have V6 := V5.below hb6
    clear a0 a1 a2 a3 b0 b1 b2 b3 E5 B5 hb6 N5 M5 V5 U5
    go_wp2_with fail
    refine (PL.out _ E6).mono ?_
    rintro e w8 ⟨⟨v3, rfl, hv3⟩, hb8⟩
    obtain ⟨oa, oc, pa, pc, hc3⟩ := hv3.cells
    rw [KL.out.1, KL.out.2] at hc3
    subst hc3
    have B8 := B6.trans (hb8.mono B6.size)
    have B9 := B8.alloc B8.size (.cells #[.int .u8 5, .string TL.text, .slice oa 2 oc, .slice pa TL.fields.length pc] 25)
    have E9 := (E6.below hb8).grown (World.grownBy_alloc w8 (.cells #[.int .u8 5, .string TL.text, .slice oa 2 oc, .slice pa TL.fields.length pc] 25) none) (fun j e => by cases e)
    have N9 := blk_alloc (blk_below N6 hb8) (.cells #[.int .u8 5, .string TL.text, .slice oa 2 oc, .slice pa TL.fields.length pc] 25)
    have L9 := blk_new w8 (.cells #[.int .u8 5, .string TL.text, .slice oa 2 oc, .slice pa TL.fields.length pc] 25)
    have V9 := (V6.below hb8).alloc (.cells #[.int .u8 5, .string TL.text, .slice oa 2 oc, .slice pa TL.fields.length pc] 25)
    have T9 := (SeeV.move (ok' := fun _ => True) (fr' := True) id (fun _ _ _ => trivial) (Nat.le_refl _) (fun _ _ _ => rfl) _ _ (RepV.see _ _ hv3)).alloc (.cells #[.int .u8 5, .string TL.text, .slice oa 2 oc, .slice pa TL.fields.length pc] 25)
    clear hv3 hb8 E6 B6 B8 N6 V6
    go_wp2_with fail
    generalize w8.alloc (.cells #[.int .u8 5, .string TL.text, .slice oa 2 oc, .slice pa TL.fields.length pc] 25) = x8 at *
    refine (PO.out _ E9).mono ?_
    rintro e w10 ⟨⟨v4, rfl, hv4⟩, hb10⟩
    obtain ⟨ra, rc, sa, sc, hc4⟩ := hv4.cells
    rw [KO.out.1, KO.out.2] at hc4
    subst hc4
    have B10 := B9.trans (hb10.mono B9.size)
    have B11 := B10.alloc B10.size (.cells #[.int .u8 6, .string TO.text, .slice ra TO.list.length rc, .slice sa 1 sc] 25)
    have N11 := blk_alloc (blk_below N9 hb10) (.cells #[.int .u8 6, .string TO.text, .slice ra TO.list.length rc, .slice sa 1 sc] 25)
    have L11 := blk_alloc (blk_below L9 hb10) (.cells #[.int .u8 6, .string TO.text, .slice ra TO.list.length rc, .slice sa 1 sc] 25)
    have O11 := blk_new w10 (.cells #[.int .u8 6, .string TO.text, .slice ra TO.list.length rc, .slice sa 1 sc] 25)
    have V11 := (V9.below hb10).alloc (.cells #[.int .u8 6, .string TO.text, .slice ra TO.list.length rc, .slice sa 1 sc] 25)
    have T11 := (T9.below hb10).alloc (.cells #[.int .u8 6, .string TO.text, .slice ra TO.list.length rc, .slice sa 1 sc] 25)
    have Y11 := (SeeV.move (ok' := fun _ => True) (fr' := True) id (fun _ _ _ => trivial) (Nat.le_refl _) (fun _ _ _ => rfl) _ _ (RepV.see _ _ hv4)).alloc (.cells #[.int .u8 6, .string TO.text, .slice ra TO.list.length rc, .slice sa 1 sc] 25)
    clear hv4 hb10 E9 B9 B10 N9 L9 V9 T9
    -- what the boxes hold
    have l0 := (blk_cell L11 0).trans rfl
    have l2 := (blk_cell L11 2).trans rfl
    have o0 := (blk_cell O11 0).trans rfl
    have o1 := (blk_cell O11 1).trans rfl
    have o2 := (blk_cell O11 2).trans rfl
    have o3 := (blk_cell O11 3).trans rfl
    go_wp2_with fail
    generalize w10.alloc (.cells #[.int .u8 6, .string TO.text, .slice ra TO.list.length rc, .slice sa 1 sc] 25) = x10 at *
    clear l0 l2 o0 o1 o2 o3
    refine (GC.out _ _ _ _ Y11).mono ?_
    rintro e w12 ⟨⟨v5, rfl, hv5⟩, hb12⟩
    obtain ⟨ya, yc, za, zc, rfl⟩ := hv5.cells
    have B12 := B11.trans (hb12.mono B11.size)
    have hv5 := SeeV.move (ok' := fun _ => True) (fr' := True) id (fun _ _ _ => trivial) (Nat.le_refl _) (fun _ _ _ => rfl) _ _ hv5
    have N12 := blk_alloc (blk_below N11 hb12) (boxOf v0 ya za yc zc)
    have L12 := blk_alloc (blk_below L11 hb12) (boxOf v0 ya za yc zc)
    have X12 := blk_new w12 (boxOf v0 ya za yc zc)
    have V12 := (V11.below hb12).alloc (boxOf v0 ya za yc zc)
    have T12 := (T11.below hb12).alloc (boxOf v0 ya za yc zc)
    have U12 := hv5.alloc (boxOf v0 ya za yc zc)
    have B13 := B12.alloc B12.size (boxOf v0 ya za yc zc)
    clear hv5 hb12 N11 L11 O11 V11 T11 Y11 B11 B12
    have HX := Lib.hid (show w12.heap.size + 1 = (w12.alloc (boxOf v0 ya za yc zc)).heap.size by rw [World.size_alloc])
    -- the list's second
    rw [← HTL.out] at T12
    simp only [SeeV] at T12
    obtain ⟨_, _, _, _, xs, ys, he, hr1, hl1, hr2, hf2⟩ := T12
    cases he
    obtain ⟨vv, hvv, hcc⟩ := SeeL.at hl1 1 v0 rfl
    obtain ⟨u0, u1, u2, u3, rfl⟩ := hvv.cells
    have hxl := SeeL.length hl1
    obtain ⟨g, off, rfl, _, hgw, _, hcel⟩ := hr1.addr (by rw [hxl]; simp)
    have x0 : (w12.alloc (boxOf v0 ya za yc zc)).cell? ⟨g, off + 4, none⟩ = some (.int .u8 v0.kind) := hcel 4 _ ((hcc 0 (by omega)).trans rfl)
    have x1 : (w12.alloc (boxOf v0 ya za yc zc)).cell? ⟨g, off + 5, none⟩ = some (.string v0.text) := hcel 5 _ ((hcc 1 (by omega)).trans rfl)
    have x2 : (w12.alloc (boxOf v0 ya za yc zc)).cell? ⟨g, off + 6, none⟩ = some (.slice u0 v0.list.length u1) := hcel 6 _ ((hcc 2 (by omega)).trans rfl)
    have x3 : (w12.alloc (boxOf v0 ya za yc zc)).cell? ⟨g, off + 7, none⟩ = some (.slice u2 v0.fields.length u3) := hcel 7 _ ((hcc 3 (by omega)).trans rfl)
    clear hcc hcel hxl hl1 hr1 hf2 hr2
    have n0 := (blk_cell N12 0).trans rfl
    have n1 := (blk_cell N12 1).trans rfl
    have n2 := (blk_cell N12 2).trans rfl
    have n3 := (blk_cell N12 3).trans rfl
    have l2 := (blk_cell L12 2).trans rfl
    have y0 := (blk_cell X12 0).trans rfl
    have y1 := (blk_cell X12 1).trans rfl
    have y2 := (blk_cell X12 2).trans rfl
    have y3 := (blk_cell X12 3).trans rfl
    go_wp2_with fail
    generalize w12.alloc (boxOf v0 ya za yc zc) = x12 at *
    have CC := Lib.hid (show ∀ wx, Below x12.heap.size x12 wx → wx.cell? ⟨w8.heap.size, 2, none⟩ = some (.slice (some ⟨g, off, none⟩) 2 oc) ∧ wx.cell? ⟨g, off + 4, none⟩ = some (.int .u8 v0.kind) ∧ wx.cell? ⟨g, off + 5, none⟩ = some (.string v0.text) ∧ wx.cell? ⟨g, off + 6, none⟩ = some (.slice u0 v0.list.length u1) ∧ wx.cell? ⟨g, off + 7, none⟩ = some (.slice u2 v0.fields.length u3) ∧ wx.cell? ⟨w2.heap.size, 0, none⟩ = some (.int .u8 v0.kind) ∧ wx.cell? ⟨w2.heap.size, 1, none⟩ = some (.string v0.text) ∧ wx.cell? ⟨w2.heap.size, 2, none⟩ = some (.slice la v0.list.length lc) ∧ wx.cell? ⟨w2.heap.size, 3, none⟩ = some (.slice fa v0.fields.length fc) ∧ wx.cell? ⟨w12.heap.size, 0, none⟩ = some (.int .u8 v0.kind) ∧ wx.cell? ⟨w12.heap.size, 1, none⟩ = some (.string v0.text) ∧ wx.cell? ⟨w12.heap.size, 2, none⟩ = some (.slice ya v0.list.length yc) ∧ wx.cell? ⟨w12.heap.size, 3, none⟩ = some (.slice za v0.fields.length zc) from fun wx hb => ⟨(hb.cell (cell_lt l2)).trans l2, (hb.cell (cell_lt x0)).trans x0, (hb.cell (cell_lt x1)).trans x1, (hb.cell (cell_lt x2)).trans x2, (hb.cell (cell_lt x3)).trans x3, (hb.cell (cell_lt n0)).trans n0, (hb.cell (cell_lt n1)).trans n1, (hb.cell (cell_lt n2)).trans n2, (hb.cell (cell_lt n3)).trans n3, (hb.cell (cell_lt y0)).trans y0, (hb.cell (cell_lt y1)).trans y1, (hb.cell (cell_lt y2)).trans y2, (hb.cell (cell_lt y3)).trans y3⟩)
    have VV := Lib.hid (show ∀ wx, Below x12.heap.size x12 wx → SeeV (fun _ => True) True wx v0 (.agg #[.int .u8 v0.kind, .string v0.text, .slice u0 v0.list.length u1, .slice u2 v0.fields.length u3]) ∧ SeeV (fun _ => True) True wx v0 (.agg #[.int .u8 v0.kind, .string v0.text, .slice la v0.list.length lc, .slice fa v0.fields.length fc]) ∧ SeeV (fun _ => True) True wx v0 (.agg #[.int .u8 v0.kind, .string v0.text, .slice ya v0.list.length yc, .slice za v0.fields.length zc]) from fun wx hb => ⟨hvv.below hb, V12.below hb, U12.below hb⟩)
    clear hvv V12 U12 N12 L12 X12 HX
    go_region_held3 (fun w' => w'.cell? ⟨w8.heap.size, 2, none⟩ = some (.slice (some ⟨g, off, none⟩) 2 oc) ∧ w'.cell? ⟨g, off + 4, none⟩ = some (.int .u8 v0.kind) ∧ w'.cell? ⟨g, off + 5, none⟩ = some (.string v0.text) ∧ w'.cell? ⟨g, off + 6, none⟩ = some (.slice u0 v0.list.length u1) ∧ w'.cell? ⟨g, off + 7, none⟩ = some (.slice u2 v0.fields.length u3) ∧ w'.cell? ⟨w2.heap.size, 0, none⟩ = some (.int .u8 v0.kind) ∧ w'.cell? ⟨w2.heap.size, 1, none⟩ = some (.string v0.text) ∧ w'.cell? ⟨w2.heap.size, 2, none⟩ = some (.slice la v0.list.length lc) ∧ w'.cell? ⟨w2.heap.size, 3, none⟩ = some (.slice fa v0.fields.length fc) ∧ w'.cell? ⟨w12.heap.size, 0, none⟩ = some (.int .u8 v0.kind) ∧ w'.cell? ⟨w12.heap.size, 1, none⟩ = some (.string v0.text) ∧ w'.cell? ⟨w12.heap.size, 2, none⟩ = some (.slice ya v0.list.length yc) ∧ w'.cell? ⟨w12.heap.size, 3, none⟩ = some (.slice za v0.fields.length zc))
      (first | go_keep | exact CC.out _ hC | exact CC.out _ hA)
      (first
        | (go_simp; go_at_call 9; refine (SV.out _ _ _ ?_ ?_).mono ?_; exact (VV.out x12.drew (Below.refl _ _).drew).1; exact (VV.out x12.drew (Below.refl _ _).drew).2.1; rintro e wA ⟨rfl, hbA⟩; have hA : Below x12.heap.size x12 wA := (Below.refl _ _).drew.trans hbA)
        | (go_simp; go_at_call 9; refine (SV.out _ _ _ ?_ ?_).mono ?_; exact (VV.out wA hA).2.2; exact (VV.out wA hA).2.1; rintro e wC ⟨rfl, hbC⟩; have hC : Below x12.heap.size x12 wC := hA.trans (hbC.mono hA.size))
        | go_must (go_goals; fail))
    go_wp2_with fail
    go_ret
    exact ⟨rfl, B13.trans (hC.mono B13.size)⟩
  · rcases hp1 : Js.parse (Js.inList s.data.toList) with ⟨t1, i1, n1⟩
    rcases hp2 : Js.parse (Js.inObj s.data.toList) with ⟨t2, i2, n2⟩
    rw [hp1] at h1 h3
    rw [hp2] at h2 h4
    obtain rfl : n1 = 31 := h1
    obtain rfl : n2 = 31 := h2
    simp only [hp1] at PL
    simp only [hp2] at PO
    have PL := Lib.hid PL
    have PO := Lib.hid PO
    clear hp1 hp2 h3 h4 W
    go_enter Tryd.func5, Tryd.ntmps5
    go_wp2_with fail
    refine (awake_calls _ hE).mono ?_
    rintro e w1 ⟨rfl, hb1⟩
    have E1 := hE.below hb1
    go_wp2_with fail
    refine (PA.out _ E1).mono ?_
    rintro e w2 ⟨⟨v, rfl, hv⟩, hb2⟩
    obtain ⟨la, lc, fa, fc, rfl⟩ := hv.cells
    have B2 := hb1.trans (hb2.mono hb1.size)
    have B3 := B2.alloc B2.size (boxOf v0 la fa lc fc)
    have E3 := (E1.below hb2).grown (World.grownBy_alloc w2 (boxOf v0 la fa lc fc) none) (fun j e => by cases e)
    have N3 := blk_new w2 (boxOf v0 la fa lc fc)
    have V3 := (SeeV.move (ok' := fun _ => True) (fr' := True) id (fun _ _ _ => trivial) (Nat.le_refl _) (fun _ _ _ => rfl) _ _ (RepV.see _ _ hv)).alloc (boxOf v0 la fa lc fc)
    clear hv hb2 hb1 E1 B2
    go_wp2_with fail
    generalize w2.alloc (boxOf v0 la fa lc fc) = x2 at *
    refine (PB.out _ E3).mono ?_
    rintro e w4 ⟨⟨v2, rfl, hv2⟩, hb4⟩
    obtain ⟨ma, mc, na, nc, rfl⟩ := hv2.cells
    have B4 := B3.trans (hb4.mono B3.size)
    have B5 := B4.alloc B4.size (boxOf v0 ma na mc nc)
    have E5 := (E3.below hb4).grown (World.grownBy_alloc w4 (boxOf v0 ma na mc nc) none) (fun j e => by cases e)
    have N5 := blk_alloc (blk_below N3 hb4) (boxOf v0 ma na mc nc)
    have M5 := blk_new w4 (boxOf v0 ma na mc nc)
    have V5 := (V3.below hb4).alloc (boxOf v0 ma na mc nc)
    have U5 := (SeeV.move (ok' := fun _ => True) (fr' := True) id (fun _ _ _ => trivial) (Nat.le_refl _) (fun _ _ _ => rfl) _ _ (RepV.see _ _ hv2)).alloc (boxOf v0 ma na mc nc)
    clear hv2 hb4 E3 B3 B4 N3 V3
    have a0 := (blk_cell N5 0).trans rfl
    have a1 := (blk_cell N5 1).trans rfl
    have a2 := (blk_cell N5 2).trans rfl
    have a3 := (blk_cell N5 3).trans rfl
    have b0 := (blk_cell M5 0).trans rfl
    have b1 := (blk_cell M5 1).trans rfl
    have b2 := (blk_cell M5 2).trans rfl
    have b3 := (blk_cell M5 3).trans rfl
    go_wp2_with fail
    generalize w4.alloc (boxOf v0 ma na mc nc) = x4 at *
    refine (SV.out _ _ _ V5 U5).mono ?_
    rintro e w6 ⟨rfl, hb6⟩
    have E6 := E5.below hb6
    have B6 := B5.trans (hb6.mono B5.size)
    have N6 := blk_below N5 hb6
    have V6 := V5.below hb6
    clear a0 a1 a2 a3 b0 b1 b2 b3 E5 B5 hb6 N5 M5 V5 U5
    go_wp2_with fail
    refine (PL.out _ E6).mono ?_
    rintro e w8 ⟨⟨v3, rfl, hv3⟩, hb8⟩
    obtain ⟨oa, oc, pa, pc, rfl⟩ := hv3.cells
    have B8 := B6.trans (hb8.mono B6.size)
    have B9 := B8.alloc B8.size (boxOf t1 oa pa oc pc)
    have E9 := (E6.below hb8).grown (World.grownBy_alloc w8 (boxOf t1 oa pa oc pc) none) (fun j e => by cases e)
    clear hv3 hb8 E6 B6 B8 N6 V6
    go_wp2_with fail
    refine (PO.out _ E9).mono ?_
    rintro e w10 ⟨⟨v4, rfl, hv4⟩, hb10⟩
    obtain ⟨ra, rc, sa, sc, rfl⟩ := hv4.cells
    have B10 := B9.trans (hb10.mono B9.size)
    clear hv4 hb10 E9 B9
    go_wp2_with fail
    go_ret
    exact ⟨rfl, B10.alloc B10.size _⟩
end Go.Proofs.YtgnobnbbjekgnaaDoor
