import Derived.Test.YtgnobnbbjekgnaaDoorPrs
import Derived.Test.YtgnobnbbjekgnaaDoorSee
/- json.twin: a deep copy, the walk. -/
namespace Go.Proofs.YtgnobnbbjekgnaaDoor
open Go.RowKit
set_option linter.unusedVariables false
attribute [local go_sem ↓] Go.wp_at_zero Go.wp_at_succ

/-! ### Plain: cells laid one behind the other; a bound on a tree's rows -/
def setAt : List Value → Nat → List Value → List Value
  | ys, _, [] => ys
  | ys, i, c :: cs => setAt (ys.set i c) (i + 1) cs
theorem setAt_length : ∀ (cs ys : List Value) (i : Nat), (setAt ys i cs).length = ys.length
  | [], ys, i => rfl
  | c :: cs, ys, i => by unfold setAt; rw [setAt_length cs]; simp
theorem take_set_succ (ys : List Value) (i : Nat) (c : Value) (h : i < ys.length) : (ys.set i c).take (i + 1) = ys.take i ++ [c] := by
  rw [List.take_set, List.take_add_one, List.getElem?_eq_getElem h]
  simp only [Option.toList]
  rw [List.set_append_right _ _ (by simp; omega)]
  simp [Nat.min_eq_left (Nat.le_of_lt h)]
theorem take_setAt : ∀ (cs ys : List Value) (i : Nat), i + cs.length ≤ ys.length → (setAt ys i cs).take (i + cs.length) = ys.take i ++ cs
  | [], ys, i, _ => by simp [setAt]
  | c :: cs, ys, i, h => by
    unfold setAt
    have h1 : i < ys.length := by simp at h; omega
    have := take_setAt cs (ys.set i c) (i + 1) (by simp at h ⊢; omega)
    rw [List.length_cons, show i + (cs.length + 1) = i + 1 + cs.length by omega, this, take_set_succ _ _ _ h1]
    simp

mutual
/-- Every list of the tree has N elements at most. -/
def bndV (N : Nat) : JV → Prop
  | .mk _ _ l f => l.length ≤ N ∧ f.length ≤ N ∧ bndL N l ∧ bndF N f
def bndL (N : Nat) : List JV → Prop
  | [] => True
  | v :: r => bndV N v ∧ bndL N r
def bndF (N : Nat) : List (ByteArray × JV) → Prop
  | [] => True
  | (_, v) :: r => bndV N v ∧ bndF N r
end
theorem bndL_mem {N : Nat} : ∀ {l : List JV}, bndL N l → ∀ v ∈ l, bndV N v
  | [], _, v, hv => by cases hv
  | u :: l, h, v, hv => by
    simp only [bndL] at h
    rcases List.mem_cons.1 hv with rfl | hv
    · exact h.1
    · exact bndL_mem h.2 v hv
theorem bndF_mem {N : Nat} : ∀ {l : List (ByteArray × JV)}, bndF N l → ∀ n v, (n, v) ∈ l → bndV N v
  | [], _, n, v, hv => by cases hv
  | (m, u) :: l, h, n, v, hv => by
    simp only [bndF] at h
    rcases List.mem_cons.1 hv with hv | hv
    · cases hv; exact h.1
    · exact bndF_mem h.2 n v hv

/-- A copy of a value: where what lies, the box at H, the result at H + 1. -/
structure TwnAt (w0 : World) (cs : Array Value) (wx : World) : Prop where
  bl : Below w0.heap.size w0 wx
  bx : wx.heap[w0.heap.size]? = some (.cells cs 25 (0, 0))
  rs : wx.heap[w0.heap.size + 1]? = some (.cells #[.int .u8 0, .string ⟨#[]⟩, .slice none 0 0, .slice none 0 0] 25 (0, 0))
theorem TwnAt.step {w0 wx wy : World} {cs : Array Value} {row : Option Nat} (h : TwnAt w0 cs wx) (hg : wx.grownBy wy row) (hr : ∀ j, row = some j → w0.heap.size + 2 ≤ j) : TwnAt w0 cs wy where
  bl := h.bl.grown hg (by have := h.bl.size; omega) (fun k e => by have := hr k e; omega)
  bx := blk_grown h.bx hg (fun e => by have := hr _ e.symm; omega)
  rs := blk_grown h.rs hg (fun e => by have := hr _ e.symm; omega)

def TwinOk (t : JV) : Prop := ∀ (ok : Nat → Prop) (fr : Prop) (v : Value) (w : World), bndV 262144 t → SeeV ok fr w t v →
  Calls Tryd.prog 18 #[v] w fun e w' => (∃ v', e = .returned v' ∧ SeeV (fun k => w.heap.size ≤ k) True w' t v') ∧ Below w.heap.size w w'

set_option maxRecDepth 100000 in
set_option maxHeartbeats 4000000 in
theorem twin_step (k : Int) (t : ByteArray) (l : List JV) (f : List (ByteArray × JV)) (hl : ∀ v, v ∈ l → TwinOk v) (hf : ∀ n v, (n, v) ∈ f → TwinOk v) : TwinOk (.mk k t l f) := by
  intro ok fr v w hbnd hv
  simp only [bndV] at hbnd
  obtain ⟨hn1, hn2, hbl, hbf⟩ := hbnd
  simp only [SeeV] at hv
  obtain ⟨la, lc, fa, fc, xs, ys, rfl, ho1, hr1, ho2, hr2⟩ := hv
  obtain ⟨i0, hi0, hz0, hz1, hz2⟩ := info_parts' (show (Tryd.prog.info? 25).map (fun i => (i.zero, i.size, i.bytes)) = some (some (.agg #[.int .u8 0, .string ⟨#[]⟩, .slice none 0 0, .slice none 0 0]), 4, 72) by kernel_rfl)
  obtain ⟨j0, hj0, hy0, hy1, hy2⟩ := info_parts' (show (Tryd.prog.info? 38).map (fun i => (i.zero, i.size, i.bytes)) = some (some (.agg #[.string ⟨#[]⟩, .int .u8 0, .string ⟨#[]⟩, .slice none 0 0, .slice none 0 0]), 5, 88) by kernel_rfl)
  go_enter Tryd.func18, Tryd.ntmps18
  go_upto_if 12 with (fail)
  have T1 : TwnAt w #[.int .u8 k, .string t, .slice la l.length lc, .slice fa f.length fc] ((w.alloc (.cells #[.int .u8 k, .string t, .slice la l.length lc, .slice fa f.length fc] 25)).alloc (.cells #[.int .u8 0, .string ⟨#[]⟩, .slice none 0 0, .slice none 0 0] 25)) := by
    refine ⟨gb_below (gb_alloc (gb_alloc (World.grownBy.refl _ _) _) _), blk_alloc (blk_new _ _) _, ?_⟩
    have := blk_new (w.alloc (.cells #[.int .u8 k, .string t, .slice la l.length lc, .slice fa f.length fc] 25)) (.cells #[.int .u8 0, .string ⟨#[]⟩, .slice none 0 0, .slice none 0 0] 25)
    rw [World.size_alloc] at this
    exact this
  have hsz1 : ((w.alloc (.cells #[.int .u8 k, .string t, .slice la l.length lc, .slice fa f.length fc] 25)).alloc (.cells #[.int .u8 0, .string ⟨#[]⟩, .slice none 0 0, .slice none 0 0] 25)).heap.size = w.heap.size + 2 := by rw [World.size_alloc, World.size_alloc]
  generalize (w.alloc (.cells #[.int .u8 k, .string t, .slice la l.length lc, .slice fa f.length fc] 25)).alloc (.cells #[.int .u8 0, .string ⟨#[]⟩, .slice none 0 0, .slice none 0 0] 25) = w1 at *
  go_cut [] (fun wx => ∃ (l1 : Option Addr) (l2 : Nat) (xs' : List Value), TwnAt w #[.int .u8 k, .string t, .slice l1 l.length l2, .slice fa f.length fc] wx ∧ SeeRow (fun q => w.heap.size + 2 ≤ q) True wx l1 xs' ∧ SeeL (fun q => w.heap.size + 2 ≤ q) True wx l xs')
  case first =>
    have e2 := (blk_cell T1.bx 2).trans rfl
    by_cases hl0 : l = []
    · subst hl0
      have k2 : ¬((0 : Int) < (([] : List JV).length : Int)) := by simp
      go_wp2_with fail
      go_meet
      exact ⟨_, _, [], T1, SeeRow.none _, by simp [SeeL]⟩
    · have hpos : 0 < l.length := List.length_pos_iff.2 hl0
      have k2 : (0 : Int) < (l.length : Int) := by omega
      go_wp2_with (at_make; refine wpList_make_full _ rfl _ _ 22 rfl (w.heap.size + 2) 25 i0 _ 4 Tryd.underlying22 hi0 hz0 hz1 _ _ _ _ l.length rfl rfl rfl rfl (by rw [hz2]; omega) (by unfold maxLen; omega) (by omega) ?_; intro w2 own2 hg2; have T2 := T1.step hg2 (fun j e => by cases e); have e2' := (blk_cell T2.bx 2).trans rfl)
      clear e2
      have hxl := SeeL.length hr1
      obtain ⟨g, off, rfl, hokg, hgw, _, hcel⟩ := ho1.addr (by omega)
      rw [hsz1] at own2
      have hzlen := own2.1
      generalize hZ : (madeCells (Value.agg #[.int .u8 0, .string ⟨#[]⟩, .slice none 0 0, .slice none 0 0]).cells (l.length * 4)).toList = zs at own2 hzlen
      clear hZ
      go_loopg [20] (l.length + 1) (fun m s20 wr => ∃ (q : Nat) (zs : List Value), q + m = l.length + 1 ∧ q ≤ l.length ∧ s20 = .int .i64 (q : Int) ∧ TwnAt w #[.int .u8 k, .string t, .slice (some ⟨g, off, none⟩) l.length lc, .slice fa f.length fc] wr ∧
        wr.ownsRow (w.heap.size + 2) 25 4 (.slice (some ⟨w.heap.size + 2, 0, none⟩) l.length l.length) l.length zs ∧ SeeL (fun p => w.heap.size + 2 < p) True wr (l.take q) (zs.take (q * 4)))
      case atStart => exact ⟨0, zs, by omega, by omega, rfl, T2, own2, by simp [SeeL]⟩
      case round =>
        obtain ⟨q, zs, hqm, hql, rfl, T3, own3, rep3⟩ := hrel
        clear T1 T2 own2 hzlen hg2
        have hzl := own3.1
        rcases Nat.lt_or_ge q l.length with hlt | hge
        · have q0 : (0 : Int) ≤ (q : Int) := by omega
          have q1 : (q : Int) < (l.length : Int) := by omega
          obtain ⟨tv, htv⟩ : ∃ tv, l[q]? = some tv := ⟨_, List.getElem?_eq_getElem hlt⟩
          obtain ⟨vv, hvv, hcc⟩ := SeeL.at hr1 q tv htv
          obtain ⟨a0, a1, b0, b1, rfl⟩ := hvv.cells
          have hmem : tv ∈ l := List.mem_of_getElem? htv
          have src : ∀ i u, xs[q * 4 + i]? = some u → wr.cell? ⟨g, off + q * 4 + i, none⟩ = some u := fun i u h => by
            rw [T3.bl.cell (p := ⟨g, off + q * 4 + i, none⟩) hgw, Nat.add_assoc]
            exact hcel _ u h
          have x0 := src 0 _ ((hcc 0 (by omega)).trans rfl)
          have x1 := src 1 _ ((hcc 1 (by omega)).trans rfl)
          have x2 := src 2 _ ((hcc 2 (by omega)).trans rfl)
          have x3 := src 3 _ ((hcc 3 (by omega)).trans rfl)
          rw [Nat.add_zero] at x0
          have hv' : SeeV ok fr (wr.alloc (.cells #[.int .u8 tv.kind, .string tv.text, .slice a0 tv.list.length a1, .slice b0 tv.fields.length b1] 25)) tv (.agg #[.int .u8 tv.kind, .string tv.text, .slice a0 tv.list.length a1, .slice b0 tv.fields.length b1]) := (hvv.below T3.bl).alloc _
          have C := hl tv hmem ok fr _ _ (bndL_mem hbl tv hmem) hv'
          clear src hcc hv' hvv
          go_wp2_with fail
          refine C.mono ?_
          rintro e w4 ⟨⟨v2, rfl, rep4⟩, hb4⟩
          obtain ⟨c0, c1, d0, d1, rfl⟩ := rep4.cells
          have hgb : wr.grownBy w4 none := (World.grownBy_alloc wr _ none).trans (gb_of_below hb4 none)
          have T4 := T3.step hgb (fun j e => by cases e)
          have own4 := own3.kept hgb (.inr (by simp [Value.ownBlock]))
          have hcell : ∀ i, i < 4 → ∃ u, w4.cell? ⟨w.heap.size + 2, q * 4 + i, none⟩ = some u := fun i hi => by
            rw [own4.cellAt _ (by omega)]
            exact ⟨_, List.getElem?_eq_getElem (by omega)⟩
          obtain ⟨u0, hu0⟩ := hcell 0 (by omega)
          obtain ⟨u1, hu1⟩ := hcell 1 (by omega)
          obtain ⟨u2, hu2⟩ := hcell 2 (by omega)
          obtain ⟨u3, hu3⟩ := hcell 3 (by omega)
          have f0 := own4.frozenAt (q * 4)
          have f1 := own4.frozenAt (q * 4 + 1)
          have f2 := own4.frozenAt (q * 4 + 2)
          have f3 := own4.frozenAt (q * 4 + 3)
          simp only [Nat.add_zero] at hu0
          go_wp2_with fail
          have hle : w.heap.size + 2 < w4.heap.size := lt_of_block (World.block_lt_of_cell? w4 _ hu0 |> fun h => Array.getElem?_eq_getElem h)
          have hg5 := gb_setCell (gb_setCell (gb_setCell (gb_setCell (World.grownBy.refl w4 (some (w.heap.size + 2))) (p := ⟨w.heap.size + 2, q * 4, none⟩) (.inr rfl) (.int .u8 tv.kind)) (p := ⟨w.heap.size + 2, q * 4 + 1, none⟩) (.inr rfl) (.string tv.text)) (p := ⟨w.heap.size + 2, q * 4 + 2, none⟩) (.inr rfl) (.slice c0 tv.list.length c1)) (p := ⟨w.heap.size + 2, q * 4 + 3, none⟩) (.inr rfl) (.slice d0 tv.fields.length d1)
          have T5 := T4.step hg5 (fun j e => by cases e; exact Nat.le_refl _)
          have own5 := (((own4.stored (q * 4) (.int .u8 tv.kind)).1.stored (q * 4 + 1) (.string tv.text)).1.stored (q * 4 + 2) (.slice c0 tv.list.length c1)).1.stored (q * 4 + 3) (.slice d0 tv.fields.length d1) |>.1
          have hS : ∀ p, p ≠ w.heap.size + 2 → ((((w4.setCell ⟨w.heap.size + 2, q * 4, none⟩ (.int .u8 tv.kind)).setCell ⟨w.heap.size + 2, q * 4 + 1, none⟩ (.string tv.text)).setCell ⟨w.heap.size + 2, q * 4 + 2, none⟩ (.slice c0 tv.list.length c1)).setCell ⟨w.heap.size + 2, q * 4 + 3, none⟩ (.slice d0 tv.fields.length d1)).heap[p]? = w4.heap[p]? := fun p h => (heap_set_ne h).trans ((heap_set_ne h).trans ((heap_set_ne h).trans (heap_set_ne h)))
          have hts : l.take (q + 1) = l.take q ++ [tv] := by rw [List.take_add_one, htv]; rfl
          have htz := take_setAt [.int .u8 tv.kind, .string tv.text, .slice c0 tv.list.length c1, .slice d0 tv.fields.length d1] zs (q * 4) (by simp; omega)
          have hwr := (own3.lt (w.heap.size + 2) rfl).2
          have hs5 : ∀ wx : World, ((((wx.setCell ⟨w.heap.size + 2, q * 4, none⟩ (.int .u8 tv.kind)).setCell ⟨w.heap.size + 2, q * 4 + 1, none⟩ (.string tv.text)).setCell ⟨w.heap.size + 2, q * 4 + 2, none⟩ (.slice c0 tv.list.length c1)).setCell ⟨w.heap.size + 2, q * 4 + 3, none⟩ (.slice d0 tv.fields.length d1)).heap.size = wx.heap.size := fun wx => by simp [World.setCell]
          have rep5 := SeeL.snoc (SeeV.move (ok' := fun p => w.heap.size + 2 < p) id (fun p hp _ => by rw [World.size_alloc] at hp; omega) (by rw [hs5]; exact Nat.le_refl _) (fun p hp _ => hS p (by rw [World.size_alloc] at hp; omega)) _ _ rep4) (SeeL.move id (fun p hp _ => hp) (by rw [hs5]; exact hgb.size) (fun p hp hpl => by rw [hS p (by omega), hgb.block p hpl (by simp)]) _ _ rep3)
          go_roundg (l.length + 1 - (q + 1))
          case measure => omega
          case rel =>
            refine ⟨q + 1, setAt zs (q * 4) [.int .u8 tv.kind, .string tv.text, .slice c0 tv.list.length c1, .slice d0 tv.fields.length d1], by omega, by omega, ?_, T5, own5, ?_⟩
            · simp
            · rw [hts, show (q + 1) * 4 = q * 4 + [Value.int .u8 tv.kind, .string tv.text, .slice c0 tv.list.length c1, .slice d0 tv.fields.length d1].length by simp; omega, htz]
              exact rep5
        · have k3 : ¬((q : Int) < (l.length : Int)) := by omega
          have g2 := blk_free T3.bx 2
          have e2 := (blk_cell T3.bx 2).trans rfl
          obtain rfl : q = l.length := by omega
          go_wp2_with fail
          go_meet
          rw [List.take_length, List.take_of_length_le (by omega)] at rep3
          have hne : ∀ p, w.heap.size + 2 ≤ p → p ≠ w.heap.size := fun p h => by omega
          refine ⟨_, _, zs, ⟨T3.bl.setCell (p := ⟨w.heap.size, 2, none⟩) (Nat.le_refl _) _, (blk_set T3.bx 2 _).trans rfl, blk_set_ne T3.rs (p := ⟨w.heap.size, 2, none⟩) (by show w.heap.size ≠ _; omega) _⟩, row_see (row_move own3 (fun p hp => heap_set_ne (hne p (own3.lt p hp).1))) (fun p hp => (own3.lt p hp).1), SeeL.move id (fun p hp _ => by omega) (by simp [World.setCell]) (fun p hp _ => heap_set_ne (hne p (by omega))) _ _ rep3⟩
  case rest =>
    obtain ⟨l1, l2, xs', T, own, rep⟩ := hcut
    clear T1
    have e3 := (blk_cell T.bx 3).trans rfl
    go_upto_if 36 with (fail)
    go_cut [] (fun wx => ∃ (f1 : Option Addr) (f2 : Nat) (ys' : List Value), TwnAt w #[.int .u8 k, .string t, .slice l1 l.length l2, .slice f1 f.length f2] wx ∧ SeeRow (fun q => w.heap.size + 2 ≤ q) True wx f1 ys' ∧ SeeF (fun q => w.heap.size + 2 ≤ q) True wx f ys' ∧
      SeeRow (fun q => w.heap.size + 2 ≤ q) True wx l1 xs' ∧ SeeL (fun q => w.heap.size + 2 ≤ q) True wx l xs')
    case first =>
      by_cases hf0 : f = []
      · subst hf0
        have k2 : ¬((0 : Int) < (([] : List (ByteArray × JV)).length : Int)) := by simp
        go_wp2_with fail
        go_meet
        exact ⟨_, _, [], T, SeeRow.none _, by simp [SeeF], own, rep⟩
      · have hpos : 0 < f.length := List.length_pos_iff.2 hf0
        have k2 : (0 : Int) < (f.length : Int) := by omega
        have hszc := T.rs
        have hszc := lt_of_block hszc
        go_wp2_with (at_make; refine wpList_make_full _ rfl _ _ 23 rfl wc.heap.size 38 j0 _ 5 Tryd.underlying23 hj0 hy0 hy1 _ _ _ _ f.length rfl rfl rfl rfl (by rw [hy2]; omega) (by unfold maxLen; omega) (by omega) ?_; intro w2 own2 hg2; have T2 := T.step hg2 (fun j e => by cases e); have e3' := (blk_cell T2.bx 3).trans rfl)
        clear e3
        have hyl := SeeF.length hr2
        obtain ⟨g, off, rfl, hokg, hgw, _, hcel⟩ := ho2.addr (by omega)
        have hzlen := own2.1
        generalize hZ : (madeCells (Value.agg #[.string ⟨#[]⟩, .int .u8 0, .string ⟨#[]⟩, .slice none 0 0, .slice none 0 0]).cells (f.length * 5)).toList = zs at own2 hzlen
        clear hZ
        have hb2 := gb_below hg2
        obtain ⟨G, hG⟩ : ∃ G, wc.heap.size = G := ⟨_, rfl⟩
        rw [hG] at own2 hb2 hszc
        have hwG : w.heap.size + 2 ≤ G := by omega
        go_loopg [44] (f.length + 1) (fun m s44 wr => ∃ (q : Nat) (zs : List Value), q + m = f.length + 1 ∧ q ≤ f.length ∧ s44 = .int .i64 (q : Int) ∧ Below G wc wr ∧
          wr.ownsRow G 38 5 (.slice (some ⟨G, 0, none⟩) f.length f.length) f.length zs ∧ SeeF (fun p => G < p) True wr (f.take q) (zs.take (q * 5)))
        case atStart => exact ⟨0, zs, by omega, by omega, by first | rfl | skip, hb2, own2, by simp [SeeF]⟩
        case round =>
          obtain ⟨q, zs, hqm, hql, rfl, B3, own3, rep3⟩ := hrel
          clear T2 own2 hzlen hg2 hb2 e3'
          have hzl := own3.1
          rcases Nat.lt_or_ge q f.length with hlt | hge
          · have q0 : (0 : Int) ≤ (q : Int) := by omega
            have q1 : (q : Int) < (f.length : Int) := by omega
            obtain ⟨⟨nm, tv⟩, htv⟩ : ∃ tv, f[q]? = some tv := ⟨_, List.getElem?_eq_getElem hlt⟩
            obtain ⟨vv, hvv, hcn, hcc⟩ := SeeF.at hr2 q nm tv htv
            obtain ⟨a0, a1, b0, b1, rfl⟩ := hvv.cells
            have hmem : (nm, tv) ∈ f := List.mem_of_getElem? htv
            have src : ∀ j u, ys[j]? = some u → wr.cell? ⟨g, off + j, none⟩ = some u := fun j u h => by
              rw [B3.cell (p := ⟨g, off + j, none⟩) (by show g < G; omega), T.bl.cell (p := ⟨g, off + j, none⟩) hgw]
              exact hcel _ u h
            have x0 := src (q * 5) _ hcn
            have x1 := src (q * 5 + 1) _ ((hcc 0 (by omega)).trans rfl)
            rw [← Nat.add_assoc] at x1
            have x2 := src (q * 5 + 2) _ ((hcc 1 (by omega)).trans rfl)
            rw [← Nat.add_assoc] at x2
            have x3 := src (q * 5 + 3) _ ((hcc 2 (by omega)).trans rfl)
            rw [← Nat.add_assoc] at x3
            have x4 := src (q * 5 + 4) _ ((hcc 3 (by omega)).trans rfl)
            rw [← Nat.add_assoc] at x4
            have hvr : SeeV ok fr wr tv (.agg #[.int .u8 tv.kind, .string tv.text, .slice a0 tv.list.length a1, .slice b0 tv.fields.length b1]) := (hvv.below T.bl).belowB B3 (by omega)
            have C := Lib.hid (fun wx (h : SeeV ok fr wx tv (.agg #[.int .u8 tv.kind, .string tv.text, .slice a0 tv.list.length a1, .slice b0 tv.fields.length b1])) => hf nm tv hmem ok fr _ wx (bndF_mem hbf nm tv hmem) h)
            clear src hcc hcn hvv
            go_wp2_with fail
            have hF := blk_new wr (.cells #[.string nm, .int .u8 tv.kind, .string tv.text, .slice a0 tv.list.length a1, .slice b0 tv.fields.length b1] 38)
            have hgA := World.grownBy_alloc wr (.cells #[.string nm, .int .u8 tv.kind, .string tv.text, .slice a0 tv.list.length a1, .slice b0 tv.fields.length b1] 38) none
            have hwr := (own3.lt G rfl).2
            have hszA : (wr.alloc (.cells #[.string nm, .int .u8 tv.kind, .string tv.text, .slice a0 tv.list.length a1, .slice b0 tv.fields.length b1] 38)).heap.size = wr.heap.size + 1 := World.size_alloc _ _
            have hvA : SeeV ok fr (wr.alloc (.cells #[.string nm, .int .u8 tv.kind, .string tv.text, .slice a0 tv.list.length a1, .slice b0 tv.fields.length b1] 38)) tv _ := hvr.alloc _
            generalize wr.alloc (.cells #[.string nm, .int .u8 tv.kind, .string tv.text, .slice a0 tv.list.length a1, .slice b0 tv.fields.length b1] 38) = w3 at *
            have y0 := (blk_cell hF 0).trans rfl
            have y1 := (blk_cell hF 1).trans rfl
            have y2 := (blk_cell hF 2).trans rfl
            have y3 := (blk_cell hF 3).trans rfl
            have y4 := (blk_cell hF 4).trans rfl
            have hFl : wr.heap.size < w3.heap.size := by omega
            have FX := Lib.hid (show ∀ w4, Below w3.heap.size w3 w4 → (∃ u0 u1 u2 u3 u4, w4.cell? ⟨G, q * 5, none⟩ = some u0 ∧ w4.cell? ⟨G, q * 5 + 1, none⟩ = some u1 ∧ w4.cell? ⟨G, q * 5 + 2, none⟩ = some u2 ∧ w4.cell? ⟨G, q * 5 + 3, none⟩ = some u3 ∧ w4.cell? ⟨G, q * 5 + 4, none⟩ = some u4) ∧
                w4.frozen? ⟨G, q * 5, none⟩ = false ∧ w4.frozen? ⟨G, q * 5 + 1, none⟩ = false ∧ w4.frozen? ⟨G, q * 5 + 2, none⟩ = false ∧ w4.frozen? ⟨G, q * 5 + 3, none⟩ = false ∧ w4.frozen? ⟨G, q * 5 + 4, none⟩ = false from fun w4 hb => by
              have own4 := own3.kept (hgA.trans (gb_of_below hb none)) (.inr (by simp [Value.ownBlock]))
              have hcell : ∀ i, i < 5 → ∃ u, w4.cell? ⟨G, q * 5 + i, none⟩ = some u := fun i hi => by
                rw [own4.cellAt _ (by omega)]
                exact ⟨_, List.getElem?_eq_getElem (by omega)⟩
              obtain ⟨u0, hu0⟩ := hcell 0 (by omega)
              obtain ⟨u1, hu1⟩ := hcell 1 (by omega)
              obtain ⟨u2, hu2⟩ := hcell 2 (by omega)
              obtain ⟨u3, hu3⟩ := hcell 3 (by omega)
              obtain ⟨u4, hu4⟩ := hcell 4 (by omega)
              exact ⟨⟨u0, u1, u2, u3, u4, hu0, hu1, hu2, hu3, hu4⟩, own4.frozenAt _, own4.frozenAt _, own4.frozenAt _, own4.frozenAt _, own4.frozenAt _⟩)
            have RV := Lib.hid hvA
            clear x0 x1 x2 x3 x4 hvA hvr
            have RVD := Lib.hid (show SeeV ok fr w3.drew tv (.agg #[.int .u8 tv.kind, .string tv.text, .slice a0 tv.list.length a1, .slice b0 tv.fields.length b1]) from by
              refine SeeV.move id ?_ ?_ ?_ _ _ RV.out
              · exact fun p hp _ => hp
              · exact Nat.le_refl _
              · exact fun p _ _ => rfl)
            have hFl' : (⟨wr.heap.size, 0, none⟩ : Addr).block < w3.heap.size := hFl
            go_region_with ((go_at_call 18; refine (C.out _ RVD.out).mono ?_; rintro e w4 ⟨⟨v2, rfl, rep4⟩, hb4⟩; obtain ⟨c0, c1, d0, d1, rfl⟩ := rep4.cells; have hb5 : Below w3.heap.size w3 w4 := ⟨hb4.os, hb4.tape, hb4.output, hb4.size, hb4.block⟩; obtain ⟨⟨u0, u1, u2, u3, u4, hu0, hu1, hu2, hu3, hu4⟩, f0, f1, f2, f3, f4⟩ := FX.out w4 hb5; have y5 := (hb5.cell hFl').trans y0))
            all_goals
              have hgb : wr.grownBy w4 none := hgA.trans (gb_of_below hb5 none)
              have own4 := own3.kept hgb (.inr (by simp [Value.ownBlock]))
              have rep4' : SeeV (fun k => w3.heap.size ≤ k) True w4 tv (.agg #[.int .u8 tv.kind, .string tv.text, .slice c0 tv.list.length c1, .slice d0 tv.fields.length d1]) := rep4
              clear hu0 hu1 hu2 hu3 hu4 f0 f1 f2 f3 f4 y0 y1 y2 y3 y4 y5 FX RV RVD C rep4
              have own5 := ((((own4.stored (q * 5) (.string nm)).1.stored (q * 5 + 1) (.int .u8 tv.kind)).1.stored (q * 5 + 2) (.string tv.text)).1.stored (q * 5 + 3) (.slice c0 tv.list.length c1)).1.stored (q * 5 + 4) (.slice d0 tv.fields.length d1) |>.1
              have hS : ∀ p, p ≠ G → (((((w4.setCell ⟨G, q * 5, none⟩ (.string nm)).setCell ⟨G, q * 5 + 1, none⟩ (.int .u8 tv.kind)).setCell ⟨G, q * 5 + 2, none⟩ (.string tv.text)).setCell ⟨G, q * 5 + 3, none⟩ (.slice c0 tv.list.length c1)).setCell ⟨G, q * 5 + 4, none⟩ (.slice d0 tv.fields.length d1)).heap[p]? = w4.heap[p]? := fun p h => (heap_set_ne h).trans ((heap_set_ne h).trans ((heap_set_ne h).trans ((heap_set_ne h).trans (heap_set_ne h))))
              have hts : f.take (q + 1) = f.take q ++ [(nm, tv)] := by rw [List.take_add_one, htv]; rfl
              have htz := take_setAt [.string nm, .int .u8 tv.kind, .string tv.text, .slice c0 tv.list.length c1, .slice d0 tv.fields.length d1] zs (q * 5) (by simp; omega)
              have hs5 : ∀ wx : World, (((((wx.setCell ⟨G, q * 5, none⟩ (.string nm)).setCell ⟨G, q * 5 + 1, none⟩ (.int .u8 tv.kind)).setCell ⟨G, q * 5 + 2, none⟩ (.string tv.text)).setCell ⟨G, q * 5 + 3, none⟩ (.slice c0 tv.list.length c1)).setCell ⟨G, q * 5 + 4, none⟩ (.slice d0 tv.fields.length d1)).heap.size = wx.heap.size := fun wx => by simp [World.setCell]
              have rep5 := SeeF.snoc (n := nm) (SeeV.move (ok' := fun p => G < p) id (fun p hp _ => by omega) (by rw [hs5]; exact Nat.le_refl _) (fun p hp _ => hS p (by omega)) _ _ rep4') (SeeF.move id (fun p hp _ => hp) (by rw [hs5]; exact hgb.size) (fun p hp hpl => by rw [hS p (by omega), hgb.block p hpl (by simp)]) _ _ rep3)
              have B4 : Below G wc w4 := (B3.grown hgb (by omega) (fun p e => by cases e))
              have B5 := ((((B4.setCell (p := ⟨G, q * 5, none⟩) (Nat.le_refl _) (.string nm)).setCell (p := ⟨G, q * 5 + 1, none⟩) (Nat.le_refl _) (.int .u8 tv.kind)).setCell (p := ⟨G, q * 5 + 2, none⟩) (Nat.le_refl _) (.string tv.text)).setCell (p := ⟨G, q * 5 + 3, none⟩) (Nat.le_refl _) (.slice c0 tv.list.length c1)).setCell (p := ⟨G, q * 5 + 4, none⟩) (Nat.le_refl _) (.slice d0 tv.fields.length d1)
              generalize (((((w4.setCell ⟨G, q * 5, none⟩ (.string nm)).setCell ⟨G, q * 5 + 1, none⟩ (.int .u8 tv.kind)).setCell ⟨G, q * 5 + 2, none⟩ (.string tv.text)).setCell ⟨G, q * 5 + 3, none⟩ (.slice c0 tv.list.length c1)).setCell ⟨G, q * 5 + 4, none⟩ (.slice d0 tv.fields.length d1)) = w5 at *
              go_wp2_with fail
              subst hG
              go_roundg (f.length + 1 - (q + 1))
              case measure => omega
              case rel =>
                refine ⟨q + 1, setAt zs (q * 5) [.string nm, .int .u8 tv.kind, .string tv.text, .slice c0 tv.list.length c1, .slice d0 tv.fields.length d1], by omega, by omega, ?_, B5, own5, ?_⟩
                · simp
                · rw [hts, show (q + 1) * 5 = q * 5 + [Value.string nm, .int .u8 tv.kind, .string tv.text, .slice c0 tv.list.length c1, .slice d0 tv.fields.length d1].length by simp; omega, htz]
                  exact rep5
          · have k3 : ¬((q : Int) < (f.length : Int)) := by omega
            have T3 : TwnAt w #[.int .u8 k, .string t, .slice l1 l.length l2, .slice (some ⟨g, off, none⟩) f.length fc] wr := ⟨T.bl.trans (B3.mono (by omega)), by rw [B3.block _ (by omega)]; exact T.bx, by rw [B3.block _ (by omega)]; exact T.rs⟩
            have g3 := blk_free T3.bx 3
            have e3 := (blk_cell T3.bx 3).trans rfl
            obtain rfl : q = f.length := by omega
            go_wp2_with fail
            go_meet
            rw [List.take_length, List.take_of_length_le (by omega)] at rep3
            have hne : ∀ p, w.heap.size + 2 ≤ p → p ≠ w.heap.size := fun p h => by omega
            have hsz9 : ∀ (wx : World) p u, (wx.setCell p u).heap.size = wx.heap.size := fun wx p u => by simp [World.setCell]
            refine ⟨_, _, zs, ⟨T3.bl.setCell (p := ⟨w.heap.size, 3, none⟩) (Nat.le_refl _) _, (blk_set T3.bx 3 _).trans rfl, blk_set_ne T3.rs (p := ⟨w.heap.size, 3, none⟩) (by show w.heap.size ≠ _; omega) _⟩, row_see (row_move own3 (fun p hp => heap_set_ne (hne p (by have := (own3.lt p hp).1; omega)))) (fun p hp => by have := (own3.lt p hp).1; omega), SeeF.move id (fun p hp _ => by omega) (by rw [hsz9]; exact Nat.le_refl _) (fun p hp _ => heap_set_ne (hne p (by omega))) _ _ rep3,
              SeeRow.move id (fun p hp _ => hp) (by rw [hsz9]; exact B3.size) (fun p hp hpl => (heap_set_ne (hne p hp)).trans (B3.block p (by omega))) own, SeeL.move id (fun p hp _ => hp) (by rw [hsz9]; exact B3.size) (fun p hp hpl => (heap_set_ne (hne p hp)).trans (B3.block p (by omega))) _ _ rep⟩
    case rest =>
      obtain ⟨f1, f2, ys', T9, own9, rep9, own8, rep8⟩ := hcut
      clear T own rep e3
      have d0 := (blk_cell T9.rs 0).trans rfl
      have d1 := (blk_cell T9.rs 1).trans rfl
      have d2 := (blk_cell T9.rs 2).trans rfl
      have d3 := (blk_cell T9.rs 3).trans rfl
      have g0 := blk_free T9.rs 0
      have g1 := blk_free T9.rs 1
      have g2 := blk_free T9.rs 2
      have g3 := blk_free T9.rs 3
      have e0 := (blk_cell T9.bx 0).trans rfl
      have e1 := (blk_cell T9.bx 1).trans rfl
      have e2 := (blk_cell T9.bx 2).trans rfl
      have e3 := (blk_cell T9.bx 3).trans rfl
      go_wp2_with fail
      have hF := blk_set (blk_set (blk_set (blk_set T9.rs 0 (.int .u8 k)) 1 (.string t)) 2 (.slice l1 l.length l2)) 3 (.slice f1 f.length f2)
      refine bodyPost_ret (results_val rfl _ _ _ rfl hF) rfl ?_
      have hS : ∀ p, w.heap.size + 2 ≤ p → ((((wc.setCell ⟨w.heap.size + 1, 0, none⟩ (.int .u8 k)).setCell ⟨w.heap.size + 1, 1, none⟩ (.string t)).setCell ⟨w.heap.size + 1, 2, none⟩ (.slice l1 l.length l2)).setCell ⟨w.heap.size + 1, 3, none⟩ (.slice f1 f.length f2)).heap[p]? = wc.heap[p]? := fun p h => by
        have h : p ≠ w.heap.size + 1 := by omega
        exact (heap_set_ne h).trans ((heap_set_ne h).trans ((heap_set_ne h).trans (heap_set_ne h)))
      have hle : w.heap.size ≤ w.heap.size + 1 := by omega
      have hsz9 : wc.heap.size ≤ ((((wc.setCell ⟨w.heap.size + 1, 0, none⟩ (.int .u8 k)).setCell ⟨w.heap.size + 1, 1, none⟩ (.string t)).setCell ⟨w.heap.size + 1, 2, none⟩ (.slice l1 l.length l2)).setCell ⟨w.heap.size + 1, 3, none⟩ (.slice f1 f.length f2)).heap.size := by simp [World.setCell]
      refine ⟨⟨_, rfl, ?_⟩, ?_⟩
      · simp only [SeeV]
        exact ⟨_, _, _, _, _, _, rfl, SeeRow.move id (fun p hp _ => by omega) hsz9 (fun p hp _ => hS p hp) own8, SeeL.move id (fun p hp _ => by omega) hsz9 (fun p hp _ => hS p hp) _ _ rep8, SeeRow.move id (fun p hp _ => by omega) hsz9 (fun p hp _ => hS p hp) own9, SeeF.move id (fun p hp _ => by omega) hsz9 (fun p hp _ => hS p hp) _ _ rep9⟩
      exact (((T9.bl.setCell (p := ⟨w.heap.size + 1, 0, none⟩) hle _).setCell (p := ⟨w.heap.size + 1, 1, none⟩) hle _).setCell (p := ⟨w.heap.size + 1, 2, none⟩) hle _).setCell (p := ⟨w.heap.size + 1, 3, none⟩) hle _

theorem twin_calls : ∀ t, TwinOk t := JV.induct twin_step
end Go.Proofs.YtgnobnbbjekgnaaDoor
