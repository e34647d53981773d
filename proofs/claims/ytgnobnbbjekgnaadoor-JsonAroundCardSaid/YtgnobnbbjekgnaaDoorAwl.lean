import Derived.Test.YtgnobnbbjekgnaaDoorAwk
/- awake, the walk. -/
namespace Go.Proofs.YtgnobnbbjekgnaaDoor
open Go.RowKit
set_option linter.unusedVariables false

set_option maxRecDepth 100000 in
set_option maxHeartbeats 4000000 in
theorem awake_calls (w : World) (hE : Env w) :
    Calls Tryd.prog 10 #[] w fun e w' => e = .returned (.bool true) ∧ Below w.heap.size w w' := by
  obtain ⟨T1, T3, hbn1, hg1, hk3, hf1, C1⟩ := aw_p1
  obtain ⟨T2, hk2, C2⟩ := aw_p2
  have G1 := fun ok fr v wx (h : SeeV ok fr wx T1 v) => get_calls T1 ⟨#[97]⟩ ok fr v wx hbn1 h
  rw [hg1] at G1
  have hgk : gKind (some T3) = T3 := rfl
  rw [hgk] at G1
  have G1 := Lib.hid G1
  have C1 := Lib.hid C1
  have C2 := Lib.hid C2
  have K2 := Lib.hid hk2
  have K3 := Lib.hid hk3
  have F1 := Lib.hid hf1
  clear hbn1 hg1 hgk hk2 hk3 hf1
  go_enter Tryd.func10, Tryd.ntmps10
  go_wp2_with fail
  refine (C1.out _ hE).mono ?_
  rintro e w1 ⟨⟨v1, rfl, hv1⟩, hb1⟩
  obtain ⟨la, lc, fa, fc, rfl⟩ := hv1.cells
  have E1 := hE.below hb1
  go_wp2_with fail
  have B1 := hb1.alloc hb1.size (.cells #[.int .u8 T1.kind, .string T1.text, .slice la T1.list.length lc, .slice fa T1.fields.length fc] 25)
  have E1 := E1.grown (World.grownBy_alloc w1 (.cells #[.int .u8 T1.kind, .string T1.text, .slice la T1.list.length lc, .slice fa T1.fields.length fc] 25) none) (fun j e => by cases e)
  have N1 := blk_new w1 (.cells #[.int .u8 T1.kind, .string T1.text, .slice la T1.list.length lc, .slice fa T1.fields.length fc] 25)
  have R1 : RepV (fun k => w.heap.size ≤ k) (w1.alloc (.cells #[.int .u8 T1.kind, .string T1.text, .slice la T1.list.length lc, .slice fa T1.fields.length fc] 25)) T1 (.agg #[.int .u8 T1.kind, .string T1.text, .slice la T1.list.length lc, .slice fa T1.fields.length fc]) := by
    refine RepV.move ?_ ?_ _ _ hv1
    · exact fun p hp _ => hp
    · exact fun p _ hpl => Lib.alloc_old w1 _ p hpl
  have Z1 : (w1.alloc (.cells #[.int .u8 T1.kind, .string T1.text, .slice la T1.list.length lc, .slice fa T1.fields.length fc] 25)).heap.size = w1.heap.size + 1 := World.size_alloc _ _
  generalize w1.alloc (.cells #[.int .u8 T1.kind, .string T1.text, .slice la T1.list.length lc, .slice fa T1.fields.length fc] 25) = x1 at *
  refine (G1.out _ _ _ _ (RepV.see _ _ R1)).mono ?_
  rintro e w2 ⟨⟨v2, rfl, hv2⟩, hb2⟩
  obtain ⟨ma, mc, na, nc, rfl⟩ := hv2.cells
  have N2 := blk_below N1 hb2
  have E2 := E1.below hb2
  have B2 := B1.trans (hb2.mono B1.size)
  clear hb1 hv1 E1 N1 R1 B1 hv2
  have P2 := hE
  have A2 := B2.alloc B2.size (.cells #[.int .u8 T3.kind, .string T3.text, .slice ma T3.list.length mc, .slice na T3.fields.length nc] 25)
  have D2 := E2.grown (World.grownBy_alloc w2 (.cells #[.int .u8 T3.kind, .string T3.text, .slice ma T3.list.length mc, .slice na T3.fields.length nc] 25) none) (fun j e => by cases e)
  have M2 := blk_new w2 (.cells #[.int .u8 T3.kind, .string T3.text, .slice ma T3.list.length mc, .slice na T3.fields.length nc] 25)
  have N2 := blk_alloc N2 (.cells #[.int .u8 T3.kind, .string T3.text, .slice ma T3.list.length mc, .slice na T3.fields.length nc] 25)
  go_wp2_with fail
  generalize w2.alloc (.cells #[.int .u8 T3.kind, .string T3.text, .slice ma T3.list.length mc, .slice na T3.fields.length nc] 25) = x2 at *
  refine (C2.out _ D2).mono ?_
  rintro e w3 ⟨⟨v3, rfl, hv3⟩, hb3⟩
  obtain ⟨oa, oc, pa, pc, rfl⟩ := hv3.cells
  have N3 := blk_below N2 hb3
  have M3 := blk_below M2 hb3
  have E3 := D2.below hb3
  have B3 := A2.trans (hb3.mono A2.size)
  clear hb3 D2 A2 N2 M2 E2 B2 hv3 P2
  have A3 := B3.alloc B3.size (.cells #[.int .u8 T2.kind, .string T2.text, .slice oa T2.list.length oc, .slice pa T2.fields.length pc] 25)
  have D3 := E3.grown (World.grownBy_alloc w3 (.cells #[.int .u8 T2.kind, .string T2.text, .slice oa T2.list.length oc, .slice pa T2.fields.length pc] 25) none) (fun j e => by cases e)
  have L3 := blk_new w3 (.cells #[.int .u8 T2.kind, .string T2.text, .slice oa T2.list.length oc, .slice pa T2.fields.length pc] 25)
  have N3 := blk_alloc N3 (.cells #[.int .u8 T2.kind, .string T2.text, .slice oa T2.list.length oc, .slice pa T2.fields.length pc] 25)
  have M3 := blk_alloc M3 (.cells #[.int .u8 T2.kind, .string T2.text, .slice oa T2.list.length oc, .slice pa T2.fields.length pc] 25)
  go_wp2_with fail
  generalize w3.alloc (.cells #[.int .u8 T2.kind, .string T2.text, .slice oa T2.list.length oc, .slice pa T2.fields.length pc] 25) = x3 at *
  refine (aw_p3 _ D3).mono ?_
  rintro e w4 ⟨⟨v4, rfl, hv4⟩, hb4⟩
  obtain ⟨qa, qc, ra, rc, rfl⟩ := hv4.cells
  have N4 := blk_below N3 hb4
  have M4 := blk_below M3 hb4
  have L4 := blk_below L3 hb4
  have E4 := D3.below hb4
  have B4 := A3.trans (hb4.mono A3.size)
  clear hb4 D3 A3 N3 M3 L3 E3 B3 hv4
  have A4 := B4.alloc B4.size (.cells #[.int .u8 JV.null.kind, .string JV.null.text, .slice qa JV.null.list.length qc, .slice ra JV.null.fields.length rc] 25)
  have D4 := E4.grown (World.grownBy_alloc w4 (.cells #[.int .u8 JV.null.kind, .string JV.null.text, .slice qa JV.null.list.length qc, .slice ra JV.null.fields.length rc] 25) none) (fun j e => by cases e)
  have N4 := blk_alloc N4 (.cells #[.int .u8 JV.null.kind, .string JV.null.text, .slice qa JV.null.list.length qc, .slice ra JV.null.fields.length rc] 25)
  have M4 := blk_alloc M4 (.cells #[.int .u8 JV.null.kind, .string JV.null.text, .slice qa JV.null.list.length qc, .slice ra JV.null.fields.length rc] 25)
  have L4 := blk_alloc L4 (.cells #[.int .u8 JV.null.kind, .string JV.null.text, .slice qa JV.null.list.length qc, .slice ra JV.null.fields.length rc] 25)
  go_wp2_with fail
  generalize w4.alloc (.cells #[.int .u8 JV.null.kind, .string JV.null.text, .slice qa JV.null.list.length qc, .slice ra JV.null.fields.length rc] 25) = x4 at *
  refine (aw_p4 _ D4).mono ?_
  rintro e w5 ⟨⟨v5, rfl, hv5⟩, hb5⟩
  obtain ⟨sa, sc, ta, tc, rfl⟩ := hv5.cells
  have N5 := blk_below N4 hb5
  have M5 := blk_below M4 hb5
  have L5 := blk_below L4 hb5
  have B5 := A4.trans (hb5.mono A4.size)
  clear hb5 D4 A4 N4 M4 L4 E4 B4 hv5
  have A5 := B5.alloc B5.size (.cells #[.int .u8 JV.null.kind, .string JV.null.text, .slice sa JV.null.list.length sc, .slice ta JV.null.fields.length tc] 25)
  have y1 := (blk_cell (blk_alloc N5 (.cells #[.int .u8 JV.null.kind, .string JV.null.text, .slice sa JV.null.list.length sc, .slice ta JV.null.fields.length tc] 25)) 3).trans rfl
  have y2 := (blk_cell (blk_alloc M5 (.cells #[.int .u8 JV.null.kind, .string JV.null.text, .slice sa JV.null.list.length sc, .slice ta JV.null.fields.length tc] 25)) 0).trans rfl
  have y3 := (blk_cell (blk_alloc L5 (.cells #[.int .u8 JV.null.kind, .string JV.null.text, .slice sa JV.null.list.length sc, .slice ta JV.null.fields.length tc] 25)) 1).trans rfl
  have k1 := F1.out
  have k2 := K2.out
  have k3 := K3.out
  rw [k1] at y1
  rw [k3] at y2
  rw [k2] at y3
  clear N5 M5 L5 B5 k1 k2 k3
  go_wp2_with fail
  go_ret
  exact ⟨rfl, A5⟩
end Go.Proofs.YtgnobnbbjekgnaaDoor
