import Derived.Test.YtgnobnbbjekgnaaDoorVal
import Derived.Recover
/- json.Parse: the deferred closure, the walk. -/
namespace Go.Proofs.YtgnobnbbjekgnaaDoor
open Go.RowKit
set_option linter.unusedVariables false

theorem bodyPostS_normal {P : Program} {fn : Func} {c₀ : Frame} {cs cs' : List Frame} {R : Ending → FrameMode → World → Prop} {a : Act} {w : World} {v : Value} {u' : FrameMode} (hd : a.defers = []) (hm : cs' = { c₀ with mode := u' } :: cs) (hr : (results fn a.tmps).run P w = .ok v w) (hR : R (.returned v) u' w) : bodyPostS P fn c₀ cs R .normal a cs' w := ⟨hd, u', hm, v, hr, hR⟩
theorem heap_drew {w : World} {k : Nat} {x : Option Obj} (h : w.heap[k]? = x) : w.drew.heap[k]? = x := h
theorem rec_tmps {α : Type} (u v a b c : α) : #[a, b, c] ++ ((Array.replicate 19 u).setIfInBounds 3 v).setIfInBounds 0 v = #[a, b, c, v, u, u, v, u, u, u, u, u, u, u, u, u, u, u, u, u, u, u] := by
  rw [← Array.toList_inj]
  simp only [Array.toList_append, Array.toList_setIfInBounds, Array.toList_replicate]
  rfl
theorem catch_idle (p q r : Addr) (w : World) :
    CallsD Tryd.prog 12 #[.pointer (some p), .pointer (some q), .pointer (some r)] .returning w fun e u' w' => e = .returned (.tuple #[]) ∧ u' = .returning ∧ w' = w := by
  refine callsD_of_wpS Tryd.func12 rfl fun c₀ cs hu => ?_
  apply wpS_seq
  apply wpS_region
  simp [wpOpsS, go_sem, recoverD, hu, Tryd.ntmps12, Exit.thenS]
  refine wpS_of_wp ?_
  rw [rec_tmps]
  go_wp2
  cases c₀
  simp_all [bodyPostS, results, Tryd.results12]
set_option maxRecDepth 100000 in
set_option maxHeartbeats 1000000 in
theorem catch_wrong (p q r : Nat) (i : Nat) (n : Int) (w : World) (c0 c1 c2 c3 x y : Value) (hp : w.heap[p]? = some (.cells #[c0, c1, c2, c3] 25 (0, 0))) (hq : w.heap[q]? = some (.cells #[x] 3 (0, 0))) (hr : w.heap[r]? = some (.cells #[y] 26 (0, 0))) (hpq : p < q) (hqr : q < r) :
    CallsD Tryd.prog 12 #[.pointer (some ⟨p, 0, none⟩), .pointer (some ⟨q, 0, none⟩), .pointer (some ⟨r, 0, none⟩)] (.panicking (thrown i n)) w fun e u' w' => e = .returned (.tuple #[]) ∧ u' = .panicking [{ v := .iface 41 (.agg #[.int .i64 (i : Int), .int .i64 n]), recovered := true }] ∧
      w'.heap[p]? = some (.cells #[.int .u8 0, .string ⟨#[]⟩, .slice none 0 0, .slice none 0 0] 25 (0, 0)) ∧ w'.heap[q]? = some (.cells #[.int .i64 (i : Int)] 3 (0, 0)) ∧ w'.heap[r]? = some (.cells #[.int .i64 n] 26 (0, 0)) ∧ Below p w w' := by
  have lp := lt_of_block hp
  have lq := lt_of_block hq
  have lr := lt_of_block hr
  refine callsD_of_wpS Tryd.func12 rfl fun c₀ cs hu => ?_
  apply wpS_seq
  apply wpS_region
  simp [wpOpsS, go_sem, recoverD, hu, Tryd.ntmps12, Exit.thenS, thrown]
  refine wpS_of_wp (Code.wp_mono (Q := fun e a' w' => e = Exit.normal ∧ a'.defers = [] ∧ w'.heap[p]? = some (.cells #[.int .u8 0, .string ⟨#[]⟩, .slice none 0 0, .slice none 0 0] 25 (0, 0)) ∧ w'.heap[q]? = some (.cells #[.int .i64 (i : Int)] 3 (0, 0)) ∧ w'.heap[r]? = some (.cells #[.int .i64 n] 26 (0, 0)) ∧ Below p w w') ?_ ?_)
  · rintro _ a' w' ⟨rfl, hd, h⟩
    exact bodyPostS_normal hd rfl (v := .tuple #[]) (by simp [results, Tryd.results12]) ⟨rfl, rfl, h⟩
  rw [rec_tmps]
  have hTA : ∀ (v : Value) (w : World), (Instr.typeAssert (.iface 41 v) 20 41 true).run Tryd.prog w = .ok (.tuple #[v, .bool true]) w := fun v w => by simp [Instr.typeAssert, run_underlying Tryd.underlying41]
  go_wp2
  have hP := blk_alloc hp (.cells #[.int .i64 (i : Int), .int .i64 n] 41)
  have hQ := blk_alloc hq (.cells #[.int .i64 (i : Int), .int .i64 n] 41)
  have hR := blk_alloc hr (.cells #[.int .i64 (i : Int), .int .i64 n] 41)
  have hW := blk_new w (.cells #[.int .i64 (i : Int), .int .i64 n] 41)
  have hB : Below p w (w.alloc (.cells #[.int .i64 (i : Int), .int .i64 n] 41)) := (Below.refl p w).alloc (by omega) _
  generalize w.alloc (.cells #[.int .i64 (i : Int), .int .i64 n] 41) = w2 at *
  have a0 := (blk_cell hP 0).trans rfl
  have a1 := (blk_cell hP 1).trans rfl
  have a2 := (blk_cell hP 2).trans rfl
  have a3 := (blk_cell hP 3).trans rfl
  have b0 := blk_free hP 0
  have b1 := blk_free hP 1
  have b2 := blk_free hP 2
  have b3 := blk_free hP 3
  have d0 := (blk_cell hQ 0).trans rfl
  have e0 := blk_free hQ 0
  have f0 := (blk_cell hR 0).trans rfl
  have g0 := blk_free hR 0
  have x0 := (blk_cell hW 0).trans rfl
  have x1 := (blk_cell hW 1).trans rfl
  go_region
  refine ⟨rfl, rfl, heap_drew ?_, heap_drew ?_, heap_drew ?_, Below.drew ?_⟩
  · have h1 : p ≠ q := by omega
    have h2 : p ≠ r := by omega
    have hF := blk_set (blk_set (blk_set (blk_set hP 0 (.int .u8 0)) 1 (.string ⟨#[]⟩)) 2 (.slice none 0 0)) 3 (.slice none 0 0)
    exact ((heap_set_ne h2).trans (heap_set_ne h1)).trans hF
  · have h1 : q ≠ p := by omega
    have h2 : q ≠ r := by omega
    exact (heap_set_ne h2).trans (blk_set (((heap_set_ne h1).trans ((heap_set_ne h1).trans ((heap_set_ne h1).trans (heap_set_ne h1)))).trans hQ) 0 _)
  · have h1 : r ≠ p := by omega
    have h2 : r ≠ q := by omega
    exact blk_set (((heap_set_ne h2).trans ((heap_set_ne h1).trans ((heap_set_ne h1).trans ((heap_set_ne h1).trans (heap_set_ne h1))))).trans hR) 0 _
  · exact (((((((hB.setCell (p := ⟨p, 0, none⟩) (Nat.le_refl _) _).setCell (p := ⟨p, 1, none⟩) (Nat.le_refl _) _).setCell (p := ⟨p, 2, none⟩) (Nat.le_refl _) _).setCell (p := ⟨p, 3, none⟩) (Nat.le_refl _) _).setCell (p := ⟨q, 0, none⟩) (Nat.le_of_lt hpq) _).setCell (p := ⟨r, 0, none⟩) (Nat.le_of_lt (Nat.lt_trans hpq hqr)) _))
end Go.Proofs.YtgnobnbbjekgnaaDoor
