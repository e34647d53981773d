import Derived.Test.YtgnobnbbjekgnaaDoorMap
/- The JSON reader: objects, the walk. -/
namespace Go.Proofs.YtgnobnbbjekgnaaDoor
open Go.RowKit
set_option linter.unusedVariables false
attribute [local go_sem ↓] Go.wp_at_zero Go.wp_at_succ

def objVal (r : Js.R (List (ByteArray × JV))) : Js.R JV := match r with | .ok (xs, j) => .ok (.mk 6 ⟨#[]⟩ [] xs, j) | .error e => .error e
theorem wf_i64 {n : Nat} (h : n ≤ 262144) : (Lit.int .i64 (n : Int)).wf = true := by
  have h1 : IntKind.min .i64 = -9223372036854775808 := by decide
  have h2 : IntKind.max .i64 = 9223372036854775807 := by decide
  unfold Lit.wf
  rw [Bool.and_eq_true, decide_eq_true_iff, decide_eq_true_iff, h1, h2]
  omega
abbrev MapIs (w : World) (b n : Nat) (D : DataW Unit) : Prop := w.ownsMap Tryd.prog 9 (plainElem Tryd.prog 3) b n D

/-- An object being read: where what lies. -/
structure ObjAt (b : Nat) (s : ByteArray) (w0 : World) (p : Nat) (acc : List (ByteArray × JV)) (fv : Value) (ys : List Value) (D : DataW Unit) (wx : World) : Prop where
  rd : RdAt wx b s p
  env : Env wx
  gb : w0.grownBy wx (some b)
  res : wx.heap[w0.heap.size]? = some (.cells #[.int .u8 0, .string ⟨#[]⟩, .slice none 0 0, .slice none 0 0] 25 (0, 0))
  loc : wx.heap[w0.heap.size + 1]? = some (.cells #[.int .u8 6, .string ⟨#[]⟩, .slice none 0 0, fv] 25 (0, 0))
  own : wx.ownsRow (w0.heap.size + 3) 38 5 fv acc.length ys
  rep : RepF (fun k => w0.heap.size + 3 ≤ k ∧ fv.ownBlock ≠ some k) wx acc ys
  map : MapIs wx (w0.heap.size + 2) acc.length D
  mo : MapOf D acc
  nl : acc = [] → fv = .slice none 0 0
theorem ObjAt.step {b : Nat} {s : ByteArray} {w0 : World} {p : Nat} {acc : List (ByteArray × JV)} {fv : Value} {ys : List Value} {D : DataW Unit} {wx wy : World} (h : ObjAt b s w0 p acc fv ys D wx) (hB : b < w0.heap.size) (hb : NotG b) {q : Nat} (hr : RdAt wy b s q) (hg : wx.grownBy wy (some b)) : ObjAt b s w0 q acc fv ys D wy where
  rd := hr
  env := h.env.grown hg (fun j e => by cases e; exact hb)
  gb := h.gb.trans hg
  res := blk_grown h.res hg (fun e => by cases e; omega)
  loc := blk_grown h.loc hg (fun e => by cases e; omega)
  own := h.own.kept hg (by
    rcases hv : fv.ownBlock with _ | k
    · exact .inl rfl
    · exact .inr (fun e => by cases e; have := (h.own.lt _ hv).1; omega))
  rep := RepF.move (fun k hk _ => hk) (fun k hk hl => hg.block k hl (fun e => by cases e; have := hk.1; omega)) _ _ h.rep
  map := h.map.kept hg (fun e => by cases e; omega)
  mo := h.mo
  nl := h.nl
theorem ObjAt.drewN {b : Nat} {s : ByteArray} {w0 : World} {p : Nat} {acc : List (ByteArray × JV)} {fv : Value} {ys : List Value} {D : DataW Unit} {wx : World} (h : ObjAt b s w0 p acc fv ys D wx) (hB : b < w0.heap.size) (hb : NotG b) (n : Nat) : ObjAt b s w0 p acc fv ys D (wx.drewN n) := h.step hB hb (h.rd.drewN n) (gb_drewN (World.grownBy.refl _ _) n)
theorem ObjAt.alloc {b : Nat} {s : ByteArray} {w0 : World} {p : Nat} {acc : List (ByteArray × JV)} {fv : Value} {ys : List Value} {D : DataW Unit} {wx : World} (h : ObjAt b s w0 p acc fv ys D wx) (hB : b < w0.heap.size) (hb : NotG b) (o : Obj) : ObjAt b s w0 p acc fv ys D (wx.alloc o) := h.step hB hb (blk_alloc h.rd _) (World.grownBy_alloc _ _ _)

/-- A field is replaced. -/
theorem ObjAt.repl {b : Nat} {s : ByteArray} {w0 : World} {p : Nat} {acc : List (ByteArray × JV)} {g cap : Nat} {ys : List Value} {D : DataW Unit} {wx : World} {nm : ByteArray} {v : JV} {k t l f : Value} {ok : Nat → Prop}
    (h : ObjAt b s w0 p acc (.slice (some ⟨g, 0, none⟩) acc.length cap) ys D wx) (hB : b < w0.heap.size) (hE0 : Env w0) (hix : idx nm acc < acc.length) (hv : RepV ok wx v (.agg #[k, t, l, f])) (hok : ∀ k, ok k → w0.heap.size + 3 ≤ k ∧ k ≠ g) :
    ObjAt b s w0 p (Js.put nm v acc) (.slice (some ⟨g, 0, none⟩) (Js.put nm v acc).length cap) (((((ys.set (idx nm acc * 5) (.string nm)).set (idx nm acc * 5 + 1) k).set (idx nm acc * 5 + 2) t).set (idx nm acc * 5 + 3) l).set (idx nm acc * 5 + 4) f) D
      (((((wx.setCell ⟨g, idx nm acc * 5, none⟩ (.string nm)).setCell ⟨g, idx nm acc * 5 + 1, none⟩ k).setCell ⟨g, idx nm acc * 5 + 2, none⟩ t).setCell ⟨g, idx nm acc * 5 + 3, none⟩ l).setCell ⟨g, idx nm acc * 5 + 4, none⟩ f) := by
  have hg := (h.own.lt g rfl).1
  have hlen : (Js.put nm v acc).length = acc.length := by rw [put_old hix, List.length_set]
  have hne : ∀ q o, q ≠ g → (⟨g, o, none⟩ : Addr).block ≠ q := fun q o h e => h e.symm
  have hN : NotG g := hE0.new (by omega)
  have hS : ∀ q, q ≠ g → (((((wx.setCell ⟨g, idx nm acc * 5, none⟩ (.string nm)).setCell ⟨g, idx nm acc * 5 + 1, none⟩ k).setCell ⟨g, idx nm acc * 5 + 2, none⟩ t).setCell ⟨g, idx nm acc * 5 + 3, none⟩ l).setCell ⟨g, idx nm acc * 5 + 4, none⟩ f).heap[q]? = wx.heap[q]? := fun q hq =>
    (heap_set_ne hq).trans ((heap_set_ne hq).trans ((heap_set_ne hq).trans ((heap_set_ne hq).trans (heap_set_ne hq))))
  refine ⟨?_, ?_, ?_, ?_, ?_, ?_, ?_, ?_, ?_, fun e => by rw [e] at hlen; simp at hlen; rw [← hlen] at hix; simp at hix⟩
  · unfold RdAt
    rw [hS b (by omega)]; exact h.rd
  · exact ((((h.env.grown (gb_set _ _) (fun j e => by cases e; exact hN)).grown (gb_set _ _) (fun j e => by cases e; exact hN)).grown (gb_set _ _) (fun j e => by cases e; exact hN)).grown (gb_set _ _) (fun j e => by cases e; exact hN)).grown (gb_set _ _) (fun j e => by cases e; exact hN)
  · have hle : w0.heap.size ≤ g := by omega
    exact gb_setCell (gb_setCell (gb_setCell (gb_setCell (gb_setCell h.gb (.inl hle) _) (.inl hle) _) (.inl hle) _) (.inl hle) _) (.inl hle) _
  · rw [hS _ (by omega)]; exact h.res
  · rw [hS _ (by omega), hlen]; exact h.loc
  · rw [hlen]
    exact ((((h.own.stored _ _).1.stored _ _).1.stored _ _).1.stored _ _).1.stored _ _ |>.1
  · rw [put_old hix]
    refine RepF.set (RepV.move ?_ ?_ _ _ hv) (RepF.move ?_ ?_ _ _ h.rep) hix
    · intro q hq _
      have := hok q hq
      exact ⟨this.1, fun e => this.2 (by cases e; rfl)⟩
    · intro q hq _
      exact hS q (hok q hq).2
    · intro q hq _
      exact ⟨hq.1, fun e => hq.2 (by cases e; rfl)⟩
    · intro q hq _
      exact hS q (fun e => hq.2 (by rw [e]; rfl))
  · have hq : w0.heap.size + 2 ≠ g := by omega
    rw [hlen]
    exact (((((h.map.setCell (a := ⟨g, _, none⟩) hq _).setCell (a := ⟨g, _, none⟩) hq _).setCell (a := ⟨g, _, none⟩) hq _).setCell (a := ⟨g, _, none⟩) hq _).setCell (a := ⟨g, _, none⟩) hq _)
  · exact mapOf_old h.mo hix

/-- A field is added. -/
theorem ObjAt.push {b : Nat} {s : ByteArray} {w0 : World} {p : Nat} {acc : List (ByteArray × JV)} {fv nv vv : Value} {ys cs : List Value} {D D' : DataW Unit} {wx w9 w10 : World} {nm : ByteArray} {v : JV} {ok : Nat → Prop} {o : Obj}
    (h : ObjAt b s w0 p acc fv ys D wx) (hB : b < w0.heap.size) (hE0 : Env w0) (hix : ¬idx nm acc < acc.length) (hv : RepV ok wx v vv) (hok : ∀ k, ok k → w0.heap.size + 3 ≤ k ∧ fv.ownBlock ≠ some k) (hcs : cs = .string nm :: vv.cells.toList)
    (hg9 : wx.grownBy w9 (some (w0.heap.size + 2))) (hm : MapIs w9 (w0.heap.size + 2) (acc.length + 1) D') (hD' : MapOf D' (Js.put nm v acc))
    (hgrow : (w9.alloc o).grownBy w10 fv.ownBlock) (hown : w10.ownsRow (w0.heap.size + 3) 38 5 nv (acc.length + 1) (ys ++ cs)) (hat : fv.ownBlock = nv.ownBlock ∨ nv.ownBlock = some (w9.heap.size + 1)) :
    ObjAt b s w0 p (Js.put nm v acc) nv (ys ++ cs) D' (w10.setCell ⟨w0.heap.size + 1, 3, none⟩ nv) := by
  have hlen : (Js.put nm v acc).length = acc.length + 1 := by rw [put_new hix]; simp
  have hsz : wx.heap.size ≤ w9.heap.size := hg9.size
  have hbase := h.map.lt
  have hA : ∀ k, k < w9.heap.size → fv.ownBlock ≠ some k → w10.heap[k]? = w9.heap[k]? := fun k hk hne => by
    rw [hgrow.block k (by rw [World.size_alloc]; omega) (fun e => hne e.symm), Lib.alloc_old w9 _ k hk]
  have hC : ∀ k, k < wx.heap.size → k ≠ w0.heap.size + 2 → w9.heap[k]? = wx.heap[k]? := fun k hk hne => hg9.block k hk (fun e => hne (by cases e; rfl))
  have hS : ∀ k, k ≠ w0.heap.size + 1 → (w10.setCell ⟨w0.heap.size + 1, 3, none⟩ nv).heap[k]? = w10.heap[k]? := fun k hk => heap_set_ne hk
  have hlow : ∀ k, k < w0.heap.size + 3 → fv.ownBlock ≠ some k := fun k hk e => by have := (h.own.lt k e).1; omega
  have hgb : w0.grownBy w10 (some b) := gb_then (gb_alloc (gb_then h.gb hg9 (fun j e => .inl (by cases e; omega))) o) hgrow (fun j e => .inl (by have := (h.own.lt j e).1; omega))
  have hrow : ∀ j, fv.ownBlock = some j → NotG j := fun j e => hE0.new (by have := (h.own.lt j e).1; omega)
  have henv : Env w10 := ((h.env.grown hg9 (fun j e => by cases e; exact hE0.new (by omega))).grown (World.grownBy_alloc _ _ none) (fun j e => by cases e)).grown hgrow hrow
  have hsz5 : w9.heap.size + 1 ≤ w10.heap.size := by have := hgrow.size; rw [World.size_alloc] at this; exact this
  have hnv : ∀ k, k < w9.heap.size → fv.ownBlock ≠ some k → nv.ownBlock ≠ some k := fun k hk hne e => by
    rcases hat with h1 | h1
    · exact hne (h1.trans e)
    · rw [h1] at e; cases e; omega
  refine ⟨?_, henv.grown (gb_set 3 nv) (fun j e => by cases e; exact hE0.new (by omega)), gb_setCell hgb (.inl (by show _ ≤ w0.heap.size + 1; omega)) _, ?_, ?_, ?_, ?_, ?_, hD', fun e => by rw [put_new hix] at e; simp at e⟩
  · unfold RdAt
    have := h.rd.lt
    rw [hS b (by omega), hA b (by omega) (hlow b (by omega)), hC b (by omega) (by omega)]; exact h.rd
  · rw [hS _ (by omega), hA _ (by omega) (hlow _ (by omega)), hC _ (by omega) (by omega)]; exact h.res
  · have : w10.heap[w0.heap.size + 1]? = some (.cells #[.int .u8 6, .string ⟨#[]⟩, .slice none 0 0, fv] 25 (0, 0)) := by
      rw [hA _ (by omega) (hlow _ (by omega)), hC _ (by omega) (by omega)]; exact h.loc
    exact (blk_set this 3 nv).trans rfl
  · rw [hlen]
    exact row_move hown (fun g e => hS g (by have := (hown.lt g e).1; omega))
  · rw [hcs, put_new hix]
    refine RepF.snoc (RepV.move ?_ ?_ _ _ hv) (RepF.move ?_ ?_ _ _ h.rep)
    · intro k hk hl
      exact ⟨(hok k hk).1, hnv k (by omega) (hok k hk).2⟩
    · intro k hk hl
      have := (hok k hk).1
      rw [hS k (by omega), hA k (by omega) (hok k hk).2, hC k hl (by omega)]
    · intro k hk hl
      exact ⟨hk.1, hnv k (by omega) hk.2⟩
    · intro k hk hl
      have := hk.1
      rw [hS k (by omega), hA k (by omega) hk.2, hC k hl (by omega)]
  · rw [hlen]
    have hm10 : MapIs w10 (w0.heap.size + 2) (acc.length + 1) D' := (hm.alloc o).kept hgrow (fun e => hlow _ (by omega) e.symm)
    exact hm10.setCell (a := ⟨w0.heap.size + 1, 3, none⟩) (by show w0.heap.size + 2 ≠ w0.heap.size + 1; omega) _

set_option maxRecDepth 100000 in
set_option maxHeartbeats 4000000 in
theorem object_calls (d b : Nat) (s : ByteArray) (i : Nat) (w : World) (z : Int) (hz : z + (d : Int) = 64) (hd0 : d ≤ 64) (hs : s.size ≤ 262144) (hi : i < s.size) (hr : RdAt w b s i) (hE : Env w) (hb : NotG b) (hV : ValAt s d) :
    Calls Tryd.prog 24 #[.pointer (some ⟨b, 0, none⟩), .int .i64 z] w (VPost b s w (objVal (Js.objL s.data.toList (Js.value s.data.toList d) (s.size + 1) true (Js.blanks s.data.toList (i + 1)) []))) := by
  have hh : ∀ w j, RdAt w b s j → j ≤ s.size → Calls Tryd.prog 20 #[.pointer (some ⟨b, 0, none⟩)] w fun e w' => e = .returned (.int .u8 ((Js.hd s.data.toList j : Nat) : Int)) ∧ ∃ n, w' = w.drewN n := fun w j h hj => hand_calls b s j w (by omega) hj h
  have H := Lib.hid hh
  clear hh
  have BL := Lib.hid (fun wx j (h : RdAt wx b s j) (hj : j ≤ s.size) => blanks_calls b s j wx (by omega) hj h)
  obtain ⟨r, hR⟩ : ∃ r, Js.objL s.data.toList (Js.value s.data.toList d) (s.size + 1) true (Js.blanks s.data.toList (i + 1)) [] = r := ⟨_, rfl⟩
  rw [hR]
  have R := Lib.hid hR
  clear hR
  have hV' := Lib.hid hV
  clear hV
  have c1 := hr.c1
  have f1 := hr.f1
  have hbB : b < w.heap.size := hr.lt
  have hr1 : RdAt (w.setCell ⟨b, 1, none⟩ (.int .i64 ((i : Int) + 1))) b s (i + 1) := hr.set (i + 1) (by omega)
  have hg1 : w.grownBy (w.setCell ⟨b, 1, none⟩ (.int .i64 ((i : Int) + 1))) (some b) := gb_set 1 _
  have hz1 : (w.setCell ⟨b, 1, none⟩ (.int .i64 ((i : Int) + 1))).heap.size = w.heap.size := by simp [World.setCell]
  have hp1 : Js.blanks s.data.toList (i + 1) ≤ s.size := blanksS (by omega)
  have hmm := @run_makeMap Tryd.prog
  have hc3 : ∀ X Y M, (((w.alloc X).alloc Y).alloc M).cell? ⟨b, 1, none⟩ = some (.int .i64 (i : Int)) := fun X Y M => (blk_cell (blk_alloc (blk_alloc (blk_alloc hr _) _) _) 1).trans rfl
  have hf3 : ∀ X Y M, (((w.alloc X).alloc Y).alloc M).frozen? ⟨b, 1, none⟩ = false := fun X Y M => blk_free (blk_alloc (blk_alloc (blk_alloc hr _) _) _) 1
  clear c1 f1
  go_enter Tryd.func24, Tryd.ntmps24
  go_wp2_with fail
  have L0 : ObjAt b s w i [] (.slice none 0 0) [] (.map []) (((w.alloc (.cells #[.int .u8 0, .string ⟨#[]⟩, .slice none 0 0, .slice none 0 0] 25)).alloc (.cells #[.int .u8 6, .string ⟨#[]⟩, .slice none 0 0, .slice none 0 0] 25)).alloc (.map #[] 0)) := by
    refine ⟨blk_alloc (blk_alloc (blk_alloc hr _) _) _, ((hE.grown (World.grownBy_alloc _ _ (some b)) (fun j e => by cases e; exact hb)).grown (World.grownBy_alloc _ _ (some b)) (fun j e => by cases e; exact hb)).grown (World.grownBy_alloc _ _ (some b)) (fun j e => by cases e; exact hb), gb_alloc (gb_alloc (gb_alloc (World.grownBy.refl _ _) _) _) _, blk_alloc (blk_alloc (blk_new w _) _) _, ?_, World.ownsRow_nil _ _ _ _, by simp [RepF], ?_, mapOf_nil, fun _ => rfl⟩
    · refine blk_alloc ?_ _
      have := blk_new (w.alloc (.cells #[.int .u8 0, .string ⟨#[]⟩, .slice none 0 0, .slice none 0 0] 25)) (.cells #[.int .u8 6, .string ⟨#[]⟩, .slice none 0 0, .slice none 0 0] 25)
      rw [World.size_alloc] at this
      exact this
    · have := World.ownsMap_made (H := Unit) ((w.alloc (.cells #[.int .u8 0, .string ⟨#[]⟩, .slice none 0 0, .slice none 0 0] 25)).alloc (.cells #[.int .u8 6, .string ⟨#[]⟩, .slice none 0 0, .slice none 0 0] 25)) Tryd.prog 9 (plainElem Tryd.prog 3)
      rw [World.size_alloc, World.size_alloc] at this
      exact this
  have L0 := L0.step hbB hb (L0.rd.set (i + 1) (x := (i : Int) + 1) (by omega)) (gb_set 1 (.int .i64 ((i : Int) + 1)))
  refine (BL.out _ (i + 1) L0.rd (by omega)).mono ?_
  rintro e w1 ⟨rfl, hr2, hg2⟩
  have L1 := L0.step hbB hb hr2 hg2
  have hE0 := hE
  clear hr hE hr1 hg1 hr2 hg2 L0 hc3 hf3
  go_wp2_with fail
  go_loopg [7] (s.size + 1) (fun q s7 wr => ∃ (p : Nat) (acc : List (ByteArray × JV)) (fv : Value) (ys : List Value) (D : DataW Unit) (first : Bool), s7 = .bool first ∧ s.size + 1 ≤ q + p ∧ p ≤ s.size ∧ acc.length ≤ p ∧ ObjAt b s w p acc fv ys D wr ∧ Js.objL s.data.toList (Js.value s.data.toList d) q first p acc = r)
  case atStart => exact ⟨Js.blanks s.data.toList (i + 1), [], _, [], _, true, rfl, by omega, hp1, by simp, L1, R.out⟩
  case round =>
    obtain ⟨p, acc, fv, ys, D, first, rfl, hq, hp, ha, L, he⟩ := hrel
    obtain ⟨q, rfl⟩ : ∃ q, gk = q + 1 := ⟨gk - 1, by omega⟩
    rw [Js.objL] at he
    have hr' := L.rd
    clear L1
    by_cases h125 : Js.hd s.data.toList p = 125
    · rw [if_pos h125] at he
      have hin := hd_pos (s := s) (i := p) (by omega)
      have k1 := ne_f (show ((Js.hd s.data.toList p : Nat) : Int) = 125 by omega)
      have R := Lib.hid he
      clear he h125
      obtain ⟨ao, cap, rfl⟩ := row_slice L.own
      go_wp2_with fail
      refine (H.out _ p hr' hp).mono ?_; rintro e w' ⟨rfl, n, rfl⟩
      have L := L.drewN hbB hb n
      generalize wr.drewN n = w2 at *
      have c1 := L.rd.c1
      have f1 := L.rd.f1
      have e0 := (blk_cell L.loc 0).trans rfl
      have e1 := (blk_cell L.loc 1).trans rfl
      have e2 := (blk_cell L.loc 2).trans rfl
      have e3 := (blk_cell L.loc 3).trans rfl
      have d0 := (blk_cell L.res 0).trans rfl
      have d1 := (blk_cell L.res 1).trans rfl
      have d2 := (blk_cell L.res 2).trans rfl
      have d3 := (blk_cell L.res 3).trans rfl
      have g0 := blk_free L.res 0
      have g1 := blk_free L.res 1
      have g2 := blk_free L.res 2
      have g3 := blk_free L.res 3
      go_wp2_with fail
      have hF := blk_set (blk_set (blk_set (blk_set (blk_set_ne L.res (p := ⟨b, 1, none⟩) (by show b ≠ _; omega) (.int .i64 ((p : Int) + 1))) 0 (.int .u8 6)) 1 (.string ⟨#[]⟩)) 2 (.slice none 0 0)) 3 (.slice ao acc.length cap)
      have hG : w2.grownBy _ (some b) := gb_set (w := w2) (b := b) 1 (.int .i64 ((p : Int) + 1))
      refine bodyPost_ret (results_val rfl _ _ _ rfl hF) rfl ?_
      refine VPost.mkOk (by rw [← R.out]; rfl) rfl ?_ ?_ ?_
      · refine RepV.mk' (World.ownsRow_nil _ _ _ _) (by simp [Value.ownBlock]) (by simp [RepL]) (World.ownsRow.mono (row_move L.own ?_) (Nat.zero_le _)) ?_ (RepF.move ?_ ?_ _ _ L.rep) (fun _ => rfl) L.nl
        · intro g hg
          have := (L.own.lt g hg).1
          have h1 : g ≠ b := by omega
          have h2 : g ≠ w.heap.size := by omega
          exact (heap_set_ne h2).trans ((heap_set_ne h2).trans ((heap_set_ne h2).trans ((heap_set_ne h2).trans (heap_set_ne h1))))
        · intro g hg
          have := (L.own.lt g hg).1
          omega
        · intro k hk _
          have := hk.1
          omega
        · intro g hg _
          have := hg.1
          have h1 : g ≠ b := by omega
          have h2 : g ≠ w.heap.size := by omega
          exact (heap_set_ne h2).trans ((heap_set_ne h2).trans ((heap_set_ne h2).trans ((heap_set_ne h2).trans (heap_set_ne h1))))
      · have hne : ∀ o, (⟨w.heap.size, o, none⟩ : Addr).block ≠ b := fun o => by show w.heap.size ≠ b; omega
        exact blk_set_ne (blk_set_ne (blk_set_ne (blk_set_ne (L.rd.set (p + 1) (by omega)) (hne 0) _) (hne 1) _) (hne 2) _) (hne 3) _
      · exact gb_setCell (gb_setCell (gb_setCell (gb_setCell (L.gb.trans hG) (.inl (Nat.le_refl _)) _) (.inl (Nat.le_refl _)) _) (.inl (Nat.le_refl _)) _) (.inl (Nat.le_refl _)) _
    rw [if_neg h125] at he
    have k1 := ne_t (show ((Js.hd s.data.toList p : Nat) : Int) ≠ 125 by omega)
    clear h125
    have HW := Lib.hid (fun wx (h : RdAt wx b s p) => word_calls b s ⟨#[44]⟩ p wx (by omega) (by decide) hp h (by simp))
    rcases hc : Js.comma s.data.toList first p with ⟨p1, q1⟩ | j
    · rw [hc] at he
      have R := Lib.hid (show .error (p1, q1) = r from he)
      clear he
      have hne : first = false := by cases first; rfl; unfold Js.comma at hc; simp at hc
      subst hne
      have hw : Js.word s.data.toList [44] p = .error (p1, q1) := by
        unfold Js.comma at hc
        rw [if_neg (by simp)] at hc
        rcases hw : Js.word s.data.toList [44] p with e | k
        · rw [hw] at hc; exact hc
        · rw [hw] at hc; cases hc
      have HX := Lib.hid (show Js.word s.data.toList ((⟨#[44]⟩ : ByteArray).data.toList.map UInt8.toNat) p = .error (p1, q1) from hw)
      clear hc hw
      go_wp2_with fail
      refine (H.out _ p hr' hp).mono ?_; rintro e w' ⟨rfl, n, rfl⟩
      have L := L.drewN hbB hb n
      generalize wr.drewN n = w2 at *
      go_wp2_with fail
      refine (HW.out _ L.rd).mono ?_
      intro e w' hp
      rw [HX.out] at hp
      obtain ⟨rfl, hg2⟩ := RPost.error hp
      exact end_panic rfl (VPost.mkErr (by rw [← R.out]; rfl) rfl (L.gb.trans hg2))
    rw [hc] at he
    simp only at he
    have hj := comma_ok hc hp
    have R := Lib.hid he
    have HC := Lib.hid hc
    clear he hc
    go_upto_if 27 with (go_at_call 20; refine (H.out _ p hr' hp).mono ?_; rintro e w' ⟨rfl, n, rfl⟩)
    have L := L.drewN hbB hb n
    generalize wr.drewN n = w2 at *
    go_cut [] (fun wx => ObjAt b s w j acc fv ys D wx)
    case first =>
      have hc := HC.out
      unfold Js.comma at hc
      cases first with
      | true =>
        rw [if_pos rfl] at hc
        cases hc
        go_wp2_with fail
        go_meet
        exact L
      | false =>
        rw [if_neg (by simp)] at hc
        rcases hw : Js.word s.data.toList [44] p with e | k
        · rw [hw] at hc; cases hc
        · rw [hw] at hc
          have hk := word_ok hw (by simp) hp
          have HX := Lib.hid (show Js.word s.data.toList ((⟨#[44]⟩ : ByteArray).data.toList.map UInt8.toNat) p = .ok k from hw)
          have HJ := Lib.hid (show Js.blanks s.data.toList k = j from by cases hc; rfl)
          clear hc hw
          go_wp2_with fail
          refine (HW.out _ L.rd).mono ?_
          intro e w' hpx
          rw [HX.out] at hpx
          obtain ⟨rfl, hr3, hg3⟩ := RPost.ok hpx
          clear hpx
          go_wp2_with fail
          refine (BL.out _ k hr3 hk.2).mono ?_
          rintro e w4 ⟨rfl, hr4, hg4⟩
          go_wp2_with fail
          go_meet
          rw [HJ.out] at hr4
          exact L.step hbB hb hr4 (hg3.trans hg4)
    case rest =>
      have he := R.out
      unfold Js.field at he
      clear HC HW hr' L R
      by_cases h34 : Js.hd s.data.toList j = 34
      · rw [if_pos h34] at he
        have hin := hd_pos (s := s) (i := j) (by omega)
        have k3 := ne_f (show ((Js.hd s.data.toList j : Nat) : Int) = 34 by omega)
        clear h34
        have R := Lib.hid he
        clear he
        go_wp2_with fail
        refine (H.out _ j hcut.rd hj.2).mono ?_; rintro e w' ⟨rfl, n, rfl⟩
        have L := hcut.drewN hbB hb n
        clear hcut
        generalize wc.drewN n = w2 at *
        go_wp2_with fail
        refine (text_calls b s j w2 hs hin L.rd L.env hb).mono ?_
        intro e w3 hpx
        have he := R.out
        clear R
        rcases hst : Js.str s.data.toList j with ⟨p1, q1⟩ | ⟨t, a1⟩
        · rw [hst] at he hpx
          obtain ⟨rfl, hg3⟩ := RPost.error hpx
          exact end_panic rfl (VPost.mkErr (by rw [← he]; rfl) rfl (L.gb.trans hg3))
        rw [hst] at he hpx
        obtain ⟨rfl, hr3, hg3⟩ := RPost.ok hpx
        clear hpx
        have L := L.step hbB hb hr3 hg3
        clear hr3 hg3
        have ha1 := str_ok hst hin
        have hbl1 := blanks_ge s.data.toList a1
        have hbm1 := blanksS (s := s) ha1.2.1
        have hnsz : (⟨t.toArray⟩ : ByteArray).size = t.length := by show t.toArray.size = _; simp
        simp only at he
        generalize hnm : (⟨t.toArray⟩ : ByteArray) = nm at he hnsz ⊢
        have R := Lib.hid he
        clear he hst
        go_wp2_with fail
        refine (BL.out _ a1 L.rd ha1.2.1).mono ?_
        rintro e w4 ⟨rfl, hr4, hg4⟩
        have L := L.step hbB hb hr4 hg4
        clear hr4 hg4
        go_wp2_with fail
        refine (word_calls b s ⟨#[58]⟩ (Js.blanks s.data.toList a1) w4 (by omega) (by decide) hbm1 L.rd (by simp)).mono ?_
        intro e w5 hpx
        have hpx : RPost b s w4 (noVal (Js.word s.data.toList [58] (Js.blanks s.data.toList a1))) e w5 := hpx
        have he := R.out
        clear R
        rcases hw : Js.word s.data.toList [58] (Js.blanks s.data.toList a1) with ⟨p1, q1⟩ | a2
        · rw [hw] at he hpx
          obtain ⟨rfl, hg5⟩ := RPost.error hpx
          exact end_panic rfl (VPost.mkErr (by rw [← he]; rfl) rfl (L.gb.trans hg5))
        rw [hw] at he hpx
        obtain ⟨rfl, hr5, hg5⟩ := RPost.ok hpx
        clear hpx
        have L := L.step hbB hb hr5 hg5
        clear hr5 hg5
        have ha2 := word_ok hw (by simp) hbm1
        simp only [List.length_cons, List.length_nil] at ha2
        have hbl2 := blanks_ge s.data.toList a2
        have hbm2 := blanksS (s := s) ha2.2
        simp only at he
        have R := Lib.hid he
        clear he hw
        go_wp2_with fail
        refine (BL.out _ a2 L.rd ha2.2).mono ?_
        rintro e w6 ⟨rfl, hr6, hg6⟩
        have L := L.step hbB hb hr6 hg6
        clear hr6 hg6
        have zw : IntKind.i64.wrap (z + 1) = z + 1 := IntWalk.i64_in _ (by omega)
        go_wp2_with fail
        refine (hV'.out b (Js.blanks s.data.toList a2) w6 (z + 1) (by omega) hbm2 L.rd L.env hb).mono ?_
        intro e w7 hpx
        have he := R.out
        clear R
        rcases hx : Js.value s.data.toList d (Js.blanks s.data.toList a2) with ⟨p1, q1⟩ | ⟨v, a3⟩
        · rw [hx] at he hpx
          obtain ⟨rfl, hg7⟩ := VPost.error hpx
          exact end_panic rfl (VPost.mkErr (by rw [← he]; rfl) rfl (L.gb.trans hg7))
        rw [hx] at he hpx
        obtain ⟨⟨vv, rfl, hv⟩, hr7, hg7⟩ := VPost.ok hpx
        clear hpx
        have hbase6 := L.map.lt
        have hrow6 : ∀ k, fv.ownBlock = some k → k < w6.heap.size := fun k e => (L.own.lt k e).2
        have L := L.step hbB hb hr7 hg7
        clear hr7
        have ha3 := value_ok s d hx hbm2
        obtain ⟨la, lc, fa, fc, rfl⟩ := hv.cells
        have he' : Js.objL s.data.toList (Js.value s.data.toList d) q false (Js.blanks s.data.toList a3) (Js.put nm v acc) = r := he
        have R := Lib.hid he'
        clear he he' hx zw
        have hkey : keyOf Tryd.prog 9 (.string nm) = some (.string nm.data.toList) := WideMaps.keyOf_string_mk Tryd.underlying9 (by rw [hnsz]; unfold maxLen; omega)
        have hmo := L.mo nm
        by_cases hix : idx nm acc < acc.length
        · rw [if_pos hix] at hmo
          have hat0 := hmo.1
          have hhas : Maps.has D (.string nm.data.toList) = true := by rw [hmo.2]; exact decide_eq_true hix
          have L9 := L.alloc hbB hb (.cells #[.string nm, .int .u8 v.kind, .string v.text, .slice la v.list.length lc, .slice fa v.fields.length fc] 38)
          have M9 := L9.map
          have e3 := (blk_cell L9.loc 3).trans rfl
          obtain ⟨g, cap, hfv⟩ : ∃ g cap, fv = .slice (some ⟨g, 0, none⟩) acc.length cap := by
            rcases L9.own.2 with ⟨_, h0⟩ | ⟨g, cap, cur, hv, _⟩
            · omega
            · exact ⟨g, cap, hv⟩
          subst hfv
          have hyl := RepF.length L9.rep
          have hcell : ∀ i, i < 5 → ∃ u, (w7.alloc (.cells #[.string nm, .int .u8 v.kind, .string v.text, .slice la v.list.length lc, .slice fa v.fields.length fc] 38)).cell? ⟨g, idx nm acc * 5 + i, none⟩ = some u := fun i hi => by
            rw [L9.own.cellAt _ (by omega)]
            exact ⟨_, List.getElem?_eq_getElem (by omega)⟩
          obtain ⟨u0, hu0⟩ := hcell 0 (by omega)
          obtain ⟨u1, hu1⟩ := hcell 1 (by omega)
          obtain ⟨u2, hu2⟩ := hcell 2 (by omega)
          obtain ⟨u3, hu3⟩ := hcell 3 (by omega)
          obtain ⟨u4, hu4⟩ := hcell 4 (by omega)
          have v0 := L9.own.frozenAt (idx nm acc * 5)
          have v1 := L9.own.frozenAt (idx nm acc * 5 + 1)
          have v2 := L9.own.frozenAt (idx nm acc * 5 + 2)
          have v3 := L9.own.frozenAt (idx nm acc * 5 + 3)
          have v4 := L9.own.frozenAt (idx nm acc * 5 + 4)
          simp only [Nat.add_zero] at hu0
          have ix0 : (0 : Int) ≤ (idx nm acc : Int) := by omega
          have ix1 : (idx nm acc : Int) < (acc.length : Int) := by omega
          clear hmo
          go_wp2_with (at_lookup; (refine wpList_lookup_own_ok_int _ rfl _ _ 68 rfl 9 3 .i64 (Maps.string_keyed Tryd.underlying9) Tryd.underlying68 Tryd.underlying3 (Tryd.zeroValue3 _) (w.heap.size + 2) acc.length D rfl M9 _ _ rfl hkey ?_; intro c hat hwc; rw [hhas]; obtain rfl : (idx nm acc : Int) = c := by (rw [hat0] at hat; cases hat; rfl)))
          have hv9 : RepV (fun k => w6.heap.size ≤ k) (w7.alloc (.cells #[.string nm, .int .u8 v.kind, .string v.text, .slice la v.list.length lc, .slice fa v.fields.length fc] 38)) v _ := RepV.move (fun k hk _ => hk) (fun k _ hl => Lib.alloc_old w7 _ k hl) _ _ hv
          have L10 := L9.repl hbB hE0 hix hv9 (fun k hk => ⟨by omega, fun e => by have := hrow6 g rfl; omega⟩)
          clear hcell hu0 hu1 hu2 hu3 hu4 v0 v1 v2 v3 v4 e3 M9 L9 hv9 hat0 hhas hkey ix0 ix1 L hv
          refine (BL.out _ a3 L10.rd ha3.2).mono ?_
          rintro e w11 ⟨rfl, hr11, hg11⟩
          have L11 := L10.step hbB hb hr11 hg11
          clear L10
          go_wp2_with fail
          have he := R.out
          have hkb := blanks_ge s.data.toList a3
          have hkc := blanksS (s := s) ha3.2
          have hpl := put_length_le nm v acc
          go_roundg q
          case measure => omega
          case rel => exact ⟨Js.blanks s.data.toList a3, Js.put nm v acc, _, _, D, false, rfl, by omega, hkc, by omega, L11, he⟩
        · rw [if_neg hix] at hmo
          have hat0 := hmo.1
          have hhas : Maps.has D (.string nm.data.toList) = false := by rw [hmo.2]; exact decide_eq_false hix
          have L9 := L.alloc hbB hb (.cells #[.string nm, .int .u8 v.kind, .string v.text, .slice la v.list.length lc, .slice fa v.fields.length fc] 38)
          have M9 := L9.map
          have e3 := (blk_cell L9.loc 3).trans rfl
          obtain ⟨ao, cap, rfl⟩ := row_slice L9.own
          have hD : Maps.IsMap D := M9.isMap
          have hbase7 := hg7.size
          clear hmo
          obtain ⟨i0, hi0, hz0, hz1, hz2⟩ := info_parts' (show (Tryd.prog.info? 38).map (fun i => (i.zero, i.size, i.bytes)) = some (some (.agg #[.string ⟨#[]⟩, .int .u8 0, .string ⟨#[]⟩, .slice none 0 0, .slice none 0 0]), 5, 88) by kernel_rfl)
          have OWN9 : ∀ w9, (w7.alloc (.cells #[.string nm, .int .u8 v.kind, .string v.text, .slice la v.list.length lc, .slice fa v.fields.length fc] 38)).grownBy w9 (some (w.heap.size + 2)) → w9.ownsRow (w.heap.size + 3) 38 5 (.slice ao acc.length cap) acc.length ys := fun w9 h => L9.own.kept h (by
            rcases hv : (Value.slice ao acc.length cap).ownBlock with _ | k
            · exact .inl rfl
            · exact .inr (fun e => by have := Option.some.inj e; have := (L9.own.lt _ hv).1; omega))
          have LOC10 : ∀ {x : Nat}, x ≤ w.heap.size + 1 → some x ≠ (Value.slice ao acc.length cap).ownBlock := fun hx e => by have := (L9.own.lt _ e.symm).1; omega
          have hval : plainElem (H := Unit) Tryd.prog 3 (.int .i64 (acc.length : Int)) = some (.lit (.int .i64 (acc.length : Int)), []) := plainElem_int Tryd.underlying3 (wf_i64 (by omega))
          go_wp2_with (first
            | (at_lookup; refine wpList_lookup_own_ok_int _ rfl _ _ 68 rfl 9 3 .i64 (Maps.string_keyed Tryd.underlying9) Tryd.underlying68 Tryd.underlying3 (Tryd.zeroValue3 _) (w.heap.size + 2) acc.length D rfl M9 _ _ rfl hkey ?_; intro c hat hwc; rw [hhas]; obtain rfl : (0 : Int) = c := by (rw [hat0] at hat; cases hat; rfl))
            | (at_mapUpdate; (refine wpList_mapUpdate_own _ rfl _ _ _ 68 rfl 9 3 (Maps.string_keyed Tryd.underlying9) Tryd.underlying68 _ (w.heap.size + 2) acc.length D rfl M9 (by unfold maxLen; omega) _ _ _ rfl rfl hkey _ [] hval ?_; intro w9 M10 hg9; have b9 := blk_grown L9.loc hg9 (fun e => by have := Option.some.inj e; omega); have e9 := (blk_cell b9 3).trans rfl; have F9 := blk_grown (blk_new w7 _) hg9 (fun e => by have := Option.some.inj e; omega); have x0 := (blk_cell F9 0).trans rfl; have x1 := (blk_cell F9 1).trans rfl; have x2 := (blk_cell F9 2).trans rfl; have x3 := (blk_cell F9 3).trans rfl; have x4 := (blk_cell F9 4).trans rfl; have own9 := OWN9 w9 hg9; have sz9 := hg9.size))
            | (at_builtin; refine wpList_append_lies _ rfl _ _ _ rfl (w.heap.size + 3) 38 i0 _ 5 88 Tryd.underlying23 hi0 hz0 hz1 hz2 rfl (by omega) (.slice ao acc.length cap) acc.length ys rfl (own9.alloc _) ⟨w9.heap.size, 0, none⟩ 1 1 [.string nm, .int .u8 v.kind, .string v.text, .slice la v.list.length lc, .slice fa v.fields.length fc] rfl rfl (World.news_of_block (cs := #[.string nm, .int .u8 v.kind, .string v.text, .slice la v.list.length lc, .slice fa v.fields.length fc]) (t := 38) (fr := (0, 0)) (heap_alloc_new w9 _)) (by simp [Value.oneCell']) (by omega) (by unfold maxLen; omega) (by omega) (by rw [World.size_alloc] at sz9 ⊢; omega) (w9.heap.size + 1) (by simp) ?_; intro g cap' w10 hown10 hgrow hat10 hlt10; have b10 := blk_grown (blk_alloc b9 _) hgrow (LOC10 (Nat.le_refl _)); have e10 := (blk_cell b10 3).trans rfl; have g10 := blk_free b10 3))
          have hv9 : RepV (fun k => w6.heap.size ≤ k) (w7.alloc (.cells #[.string nm, .int .u8 v.kind, .string v.text, .slice la v.list.length lc, .slice fa v.fields.length fc] 38)) v _ := RepV.move (fun k hk _ => hk) (fun k _ hl => Lib.alloc_old w7 _ k hl) _ _ hv
          have L10 := L9.push hbB hE0 hix hv9 (fun k hk => ⟨by omega, fun e => by have := hrow6 k e; omega⟩) rfl hg9 M10 (mapOf_new L9.mo hD hix) hgrow hown10 (by
            rcases hat10 with h | h
            · exact .inl h
            · exact .inr (by rw [h]; rfl))
          clear hat0 hhas hkey hval M9 L9 hv9 L hv e3 b9 e9 F9 x0 x1 x2 x3 x4 own9 sz9 M10 hg9 hown10 hgrow hat10 hlt10 b10 e10 g10 OWN9 LOC10
          refine (BL.out _ a3 L10.rd ha3.2).mono ?_
          rintro e w11 ⟨rfl, hr11, hg11⟩
          have L11 := L10.step hbB hb hr11 hg11
          clear L10
          go_wp2_with fail
          have he := R.out
          have hkb := blanks_ge s.data.toList a3
          have hkc := blanksS (s := s) ha3.2
          have hpl := put_length_le nm v acc
          have hpe : (Js.put nm v acc).length = acc.length + 1 := by rw [put_new hix]; simp
          go_roundg q
          case measure => omega
          case rel =>
            rw [← hpe] at L11
            exact ⟨Js.blanks s.data.toList a3, Js.put nm v acc, _, _, _, false, rfl, by omega, hkc, by omega, L11, he⟩
      · rw [if_neg h34] at he
        have R := Lib.hid (show .error (j, 30) = r from he)
        have k3 := ne_t (show ((Js.hd s.data.toList j : Nat) : Int) ≠ 34 by omega)
        clear he h34
        go_wp2_with fail
        refine (H.out _ j hcut.rd hj.2).mono ?_; rintro e w' ⟨rfl, n, rfl⟩
        have L := hcut.drewN hbB hb n
        clear hcut
        generalize wc.drewN n = w2 at *
        go_wp2_with fail
        refine (stop_calls b s j _ L.rd).mono ?_; rintro e w' ⟨rfl, rfl⟩
        exact end_panic rfl (VPost.mkErr (by rw [← R.out]; rfl) rfl L.gb)
end Go.Proofs.YtgnobnbbjekgnaaDoor
