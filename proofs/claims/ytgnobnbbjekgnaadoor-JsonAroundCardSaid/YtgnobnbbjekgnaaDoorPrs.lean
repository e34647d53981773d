import Derived.Test.YtgnobnbbjekgnaaDoorPar
/- json.Parse, the walk. -/
namespace Go.Proofs.YtgnobnbbjekgnaaDoor
open Go.RowKit
set_option linter.unusedVariables false

theorem results_parse {fn : Func} {t u v : Tmp} (h : fn.results = #[.cell t 25, .cell u 3, .cell v 26]) (tmps : Array Value) (w : World) (p q r : Nat) {c0 c1 c2 c3 x y : Value} {ty tx tz : TypeId} {m m2 m3 : Nat × Nat}
    (ht : tmps.getD t undef = .pointer (some ⟨p, 0, none⟩)) (hu : tmps.getD u undef = .pointer (some ⟨q, 0, none⟩)) (hv : tmps.getD v undef = .pointer (some ⟨r, 0, none⟩)) (hp : w.heap[p]? = some (.cells #[c0, c1, c2, c3] ty m)) (hq : w.heap[q]? = some (.cells #[x] tx m2)) (hr : w.heap[r]? = some (.cells #[y] tz m3)) :
    (results fn tmps).run Tryd.prog w = .ok (.tuple #[.agg #[c0, c1, c2, c3], x, y]) w := by
  have k0 : w.cell? ⟨p, 0, none⟩ = some c0 := by rw [blk_cell hp]; rfl
  have k1 : w.cell? ⟨p, 1, none⟩ = some c1 := by rw [blk_cell hp]; rfl
  have k2 : w.cell? ⟨p, 2, none⟩ = some c2 := by rw [blk_cell hp]; rfl
  have k3 : w.cell? ⟨p, 3, none⟩ = some c3 := by rw [blk_cell hp]; rfl
  have k4 : w.cell? ⟨q, 0, none⟩ = some x := by rw [blk_cell hq]; rfl
  have k5 : w.cell? ⟨r, 0, none⟩ = some y := by rw [blk_cell hr]; rfl
  rw [Array.getD_eq_getD_getElem?] at ht hu hv
  simp [results, h, go_sem, ht, hu, hv, k0, k1, k2, k3, k4, k5]

/-- What Parse comes to. -/
def PPost (s : ByteArray) (w : World) (r : JV × Nat × Int) (e : Ending) (w' : World) : Prop :=
  (∃ v, e = .returned (.tuple #[v, .int .i64 (r.2.1 : Int), .int .i64 r.2.2]) ∧ RepV (fun k => w.heap.size ≤ k) w' r.1 v) ∧ Below w.heap.size w w'

structure PrsAt (s : ByteArray) (w0 : World) (p : Nat) (cs : Array Value) (wx : World) : Prop where
  rd : RdAt wx (w0.heap.size + 1 + 1 + 1) s p
  env : Env wx
  bl : Below w0.heap.size w0 wx
  r0 : wx.heap[w0.heap.size]? = some (.cells cs 25 (0, 0))
  r1 : wx.heap[w0.heap.size + 1]? = some (.cells #[.int .i64 0] 3 (0, 0))
  r2 : wx.heap[w0.heap.size + 1 + 1]? = some (.cells #[.int .i64 0] 26 (0, 0))
theorem PrsAt.step {s : ByteArray} {w0 : World} {p q : Nat} {cs : Array Value} {wx wy : World} (h : PrsAt s w0 p cs wx) (hE0 : Env w0) (hr : RdAt wy (w0.heap.size + 1 + 1 + 1) s q) (hg : wx.grownBy wy (some (w0.heap.size + 1 + 1 + 1))) : PrsAt s w0 q cs wy where
  rd := hr
  env := h.env.grown hg (fun j e => by cases e; exact hE0.new (by omega))
  bl := h.bl.grown hg (by have := h.bl.size; omega) (fun k e => by cases e; omega)
  r0 := blk_grown h.r0 hg (fun e => by have := Option.some.inj e; omega)
  r1 := blk_grown h.r1 hg (fun e => by have := Option.some.inj e; omega)
  r2 := blk_grown h.r2 hg (fun e => by have := Option.some.inj e; omega)
/-- A panic is caught. -/
theorem prs_panic {s : ByteArray} {w0 wx wy : World} {p i : Nat} {n : Int} {c0 c1 c2 c3 : Value} {tmps : Array Value} {ds : List Deferred} (h : PrsAt s w0 p #[c0, c1, c2, c3] wx) (hg : wx.grownBy wy (some (w0.heap.size + 1 + 1 + 1))) (hR : Js.parse s.data.toList = (JV.null, i, n))
    (h2 : tmps.getD 2 undef = .pointer (some ⟨w0.heap.size, 0, none⟩)) (h3 : tmps.getD 3 undef = .pointer (some ⟨w0.heap.size + 1, 0, none⟩)) (h4 : tmps.getD 4 undef = .pointer (some ⟨w0.heap.size + 1 + 1, 0, none⟩))
    (hds : ds = [{ target := .fn (Fn.func 12) #[.pointer (some ⟨w0.heap.size, 0, none⟩), .pointer (some ⟨w0.heap.size + 1, 0, none⟩), .pointer (some ⟨w0.heap.size + 1 + 1, 0, none⟩)], args := #[] }]) :
    bodyPostD Tryd.prog Tryd.f7 (PPost s w0 (Js.parse s.data.toList)) (Exit.panic (thrown i n)) { tmps := tmps, defers := ds } wy := by
  subst hds
  rw [hR]
  refine leaves_cons (f := 12) (args := #[.pointer (some ⟨w0.heap.size, 0, none⟩), .pointer (some ⟨w0.heap.size + 1, 0, none⟩), .pointer (some ⟨w0.heap.size + 1 + 1, 0, none⟩)]) (by simp) (by simp [go_sem]) ?_
  have r0 := blk_grown h.r0 hg (fun e => by have := Option.some.inj e; omega)
  have r1 := blk_grown h.r1 hg (fun e => by have := Option.some.inj e; omega)
  have r2 := blk_grown h.r2 hg (fun e => by have := Option.some.inj e; omega)
  have hb := h.bl.grown hg (by have := h.bl.size; omega) (fun k e => by cases e; omega)
  refine (catch_wrong w0.heap.size (w0.heap.size + 1) (w0.heap.size + 1 + 1) i n wy _ _ _ _ _ _ r0 r1 r2 (by omega) (by omega)).mono ?_
  rintro e u' w'' ⟨rfl, rfl, q1, q2, q3, q4⟩
  show Leaves _ _ _ _ [] .returning _
  exact ⟨_, results_parse rfl _ _ _ _ _ h2 h3 h4 q1 q2 q3, ⟨_, rfl, RepV.leaf _ _ _ _⟩, hb.trans q4⟩

set_option maxRecDepth 100000 in
set_option maxHeartbeats 4000000 in
theorem parse_calls (s : ByteArray) (w : World) (hs0 : s.size ≤ 9223372036854775000) (hE : Env w) :
    Calls Tryd.prog 7 #[.string s] w (PPost s w (Js.parse s.data.toList)) := by
  have hmf : ∀ (fn : Fn) (first cap : Array Value) (w : World), (Instr.makeFunc fn first cap).run Tryd.prog w = .ok (.func fn first cap) w := fun _ _ _ _ => rfl
  by_cases hs : s.size ≤ 262144
  · have hgt : ¬((262144 : Int) < (s.size : Int)) := by omega
    go_enter_defers Tryd.func7, Tryd.ntmps7
    have W0 : PrsAt s w 0 #[.int .u8 0, .string ⟨#[]⟩, .slice none 0 0, .slice none 0 0] ((((w.alloc (.cells #[.int .u8 0, .string ⟨#[]⟩, .slice none 0 0, .slice none 0 0] 25)).alloc (.cells #[.int .i64 0] 3)).alloc (.cells #[.int .i64 0] 26)).alloc (.cells #[.string s, .int .i64 0] 45)) := by
      refine ⟨?_, ?_, ?_, ?_, ?_, ?_⟩
      · have := blk_new (((w.alloc (.cells #[.int .u8 0, .string ⟨#[]⟩, .slice none 0 0, .slice none 0 0] 25)).alloc (.cells #[.int .i64 0] 3)).alloc (.cells #[.int .i64 0] 26)) (.cells #[.string s, .int .i64 0] 45)
        simp only [World.size_alloc] at this
        exact this
      · exact (((hE.grown (World.grownBy_alloc _ _ none) (fun j e => by cases e)).grown (World.grownBy_alloc _ _ none) (fun j e => by cases e)).grown (World.grownBy_alloc _ _ none) (fun j e => by cases e)).grown (World.grownBy_alloc _ _ none) (fun j e => by cases e)
      · exact gb_below (gb_alloc (gb_alloc (gb_alloc (gb_alloc (World.grownBy.refl _ _) _) _) _) _)
      · exact blk_alloc (blk_alloc (blk_alloc (blk_new _ _) _) _) _
      · refine blk_alloc (blk_alloc ?_ _) _
        have := blk_new (w.alloc (.cells #[.int .u8 0, .string ⟨#[]⟩, .slice none 0 0, .slice none 0 0] 25)) (.cells #[.int .i64 0] 3)
        simp only [World.size_alloc] at this
        exact this
      · refine blk_alloc ?_ _
        have := blk_new ((w.alloc (.cells #[.int .u8 0, .string ⟨#[]⟩, .slice none 0 0, .slice none 0 0] 25)).alloc (.cells #[.int .i64 0] 3)) (.cells #[.int .i64 0] 26)
        simp only [World.size_alloc] at this
        exact this
    have hN : NotG (w.heap.size + 1 + 1 + 1) := hE.new (by omega)
    have hP : Js.parse s.data.toList = match Js.value s.data.toList 64 (Js.blanks s.data.toList 0) with
        | .error (i, e) => (JV.null, i, e)
        | .ok (v, j) => if Js.blanks s.data.toList j < s.size then (JV.null, Js.blanks s.data.toList j, 30) else (v, 0, 0) := by
      unfold Js.parse
      rw [len_data, if_neg (by omega)]
      rfl
    have hb0 := blanksS (s := s) (i := 0) (by omega)
    have HP := Lib.hid hP
    clear hP
    go_wp2_with fail
    refine (blanks_calls _ s 0 _ (by omega) (by omega) W0.rd).mono ?_
    rintro e w1 ⟨rfl, hr1, hg1⟩
    have W1 := W0.step hE hr1 hg1
    clear W0 hr1 hg1
    go_wp2_with fail
    refine (value_calls s hs 64 (Nat.le_refl _) _ (Js.blanks s.data.toList 0) w1 1 (by omega) hb0 W1.rd W1.env hN).mono ?_
    intro e w2 hpx
    have hP := HP.out
    clear HP
    rcases hx : Js.value s.data.toList 64 (Js.blanks s.data.toList 0) with ⟨p1, q1⟩ | ⟨v, j⟩
    · rw [hx] at hP hpx
      obtain ⟨rfl, hg2⟩ := VPost.error hpx
      exact prs_panic W1 hg2 hP rfl rfl rfl rfl
    rw [hx] at hP hpx
    obtain ⟨⟨vv, rfl, hv⟩, hr2, hg2⟩ := VPost.ok hpx
    have hj := value_ok s 64 hx hb0
    obtain ⟨la, lc, fa, fc, rfl⟩ := hv.cells
    have hsz1 := W1.rd.lt
    have W2 := W1.step hE hr2 hg2
    clear W1 hpx hr2 hg2 hx
    simp only at hP
    have HP := Lib.hid hP
    clear hP
    have d0 := (blk_cell W2.r0 0).trans rfl
    have d1 := (blk_cell W2.r0 1).trans rfl
    have d2 := (blk_cell W2.r0 2).trans rfl
    have d3 := (blk_cell W2.r0 3).trans rfl
    have g0 := blk_free W2.r0 0
    have g1 := blk_free W2.r0 1
    have g2 := blk_free W2.r0 2
    have g3 := blk_free W2.r0 3
    go_wp2_with fail
    have W3 : PrsAt s w j #[.int .u8 v.kind, .string v.text, .slice la v.list.length lc, .slice fa v.fields.length fc] ((((w2.setCell ⟨w.heap.size, 0, none⟩ (.int .u8 v.kind)).setCell ⟨w.heap.size, 1, none⟩ (.string v.text)).setCell ⟨w.heap.size, 2, none⟩ (.slice la v.list.length lc)).setCell ⟨w.heap.size, 3, none⟩ (.slice fa v.fields.length fc)) := by
      have hS : ∀ k, k ≠ w.heap.size → ((((w2.setCell ⟨w.heap.size, 0, none⟩ (.int .u8 v.kind)).setCell ⟨w.heap.size, 1, none⟩ (.string v.text)).setCell ⟨w.heap.size, 2, none⟩ (.slice la v.list.length lc)).setCell ⟨w.heap.size, 3, none⟩ (.slice fa v.fields.length fc)).heap[k]? = w2.heap[k]? := fun k h => (heap_set_ne h).trans ((heap_set_ne h).trans ((heap_set_ne h).trans (heap_set_ne h)))
      have hN0 : NotG w.heap.size := hE.new (Nat.le_refl _)
      refine ⟨?_, ?_, ?_, ?_, ?_, ?_⟩
      · unfold RdAt; rw [hS _ (by omega)]; exact W2.rd
      · exact (((W2.env.grown (gb_set _ _) (fun j e => by cases e; exact hN0)).grown (gb_set _ _) (fun j e => by cases e; exact hN0)).grown (gb_set _ _) (fun j e => by cases e; exact hN0)).grown (gb_set _ _) (fun j e => by cases e; exact hN0)
      · exact (((W2.bl.setCell (p := ⟨w.heap.size, 0, none⟩) (Nat.le_refl _) _).setCell (p := ⟨w.heap.size, 1, none⟩) (Nat.le_refl _) _).setCell (p := ⟨w.heap.size, 2, none⟩) (Nat.le_refl _) _).setCell (p := ⟨w.heap.size, 3, none⟩) (Nat.le_refl _) _
      · exact blk_set (blk_set (blk_set (blk_set W2.r0 0 _) 1 _) 2 _) 3 _
      · rw [hS _ (by omega)]; exact W2.r1
      · rw [hS _ (by omega)]; exact W2.r2
    have hv3 : RepV (fun k => w1.heap.size ≤ k) ((((w2.setCell ⟨w.heap.size, 0, none⟩ (.int .u8 v.kind)).setCell ⟨w.heap.size, 1, none⟩ (.string v.text)).setCell ⟨w.heap.size, 2, none⟩ (.slice la v.list.length lc)).setCell ⟨w.heap.size, 3, none⟩ (.slice fa v.fields.length fc)) v _ := RepV.move (fun k hk _ => hk) (fun k hk _ => by
      have h : k ≠ w.heap.size := by omega
      exact (heap_set_ne h).trans ((heap_set_ne h).trans ((heap_set_ne h).trans (heap_set_ne h)))) _ _ hv
    clear d0 d1 d2 d3 g0 g1 g2 g3 W2 hv
    generalize ((((w2.setCell ⟨w.heap.size, 0, none⟩ (.int .u8 v.kind)).setCell ⟨w.heap.size, 1, none⟩ (.string v.text)).setCell ⟨w.heap.size, 2, none⟩ (.slice la v.list.length lc)).setCell ⟨w.heap.size, 3, none⟩ (.slice fa v.fields.length fc)) = w3 at *
    refine (blanks_calls _ s j w3 (by omega) hj.2 W3.rd).mono ?_
    rintro e w4 ⟨rfl, hr4, hg4⟩
    have W4 := W3.step hE hr4 hg4
    have hv4 : RepV (fun k => w1.heap.size ≤ k) w4 v _ := RepV.move (fun k hk _ => hk) (fun k hk hl => hg4.block k hl (fun e => by have := Option.some.inj e; omega)) _ _ hv3
    clear W3 hv3 hr4 hg4
    have hbj := blanksS (s := s) hj.2
    have hP := HP.out
    clear HP
    generalize Js.blanks s.data.toList j = j2 at *
    have c1 := W4.rd.c1
    by_cases hlt : j2 < s.size
    · rw [if_pos hlt] at hP
      have k1 : (j2 : Int) < (s.size : Int) := by omega
      have HP := Lib.hid hP
      clear hP hlt
      go_wp2_with fail
      refine (stop_calls _ s j2 w4 W4.rd).mono ?_
      rintro e w' ⟨rfl, rfl⟩
      exact prs_panic W4 (World.grownBy.refl _ _) HP.out rfl rfl rfl rfl
    · rw [if_neg hlt] at hP
      have k1 : ¬((j2 : Int) < (s.size : Int)) := by omega
      have HP := Lib.hid hP
      clear hP hlt
      have d0 := (blk_cell W4.r0 0).trans rfl
      have d1 := (blk_cell W4.r0 1).trans rfl
      have d2 := (blk_cell W4.r0 2).trans rfl
      have d3 := (blk_cell W4.r0 3).trans rfl
      have g0 := blk_free W4.r0 0
      have g1 := blk_free W4.r0 1
      have g2 := blk_free W4.r0 2
      have g3 := blk_free W4.r0 3
      have e0 := (blk_cell W4.r1 0).trans rfl
      have f0 := blk_free W4.r1 0
      have x0 := (blk_cell W4.r2 0).trans rfl
      have y0 := blk_free W4.r2 0
      go_wp2_with fail
      have h01 : w.heap.size ≠ w.heap.size + 1 := by omega
      have h02 : w.heap.size ≠ w.heap.size + 1 + 1 := by omega
      have h12 : w.heap.size + 1 ≠ w.heap.size + 1 + 1 := by omega
      have q1 := blk_set_ne (blk_set_ne (blk_set (blk_set (blk_set (blk_set W4.r0 0 (.int .u8 v.kind)) 1 (.string v.text)) 2 (.slice la v.list.length lc)) 3 (.slice fa v.fields.length fc)) (p := ⟨w.heap.size + 1, 0, none⟩) h01.symm (.int .i64 0)) (p := ⟨w.heap.size + 1 + 1, 0, none⟩) h02.symm (.int .i64 0)
      have q2 := blk_set_ne (blk_set (blk_set_ne (blk_set_ne (blk_set_ne (blk_set_ne W4.r1 (p := ⟨w.heap.size, 0, none⟩) h01 (.int .u8 v.kind)) (p := ⟨w.heap.size, 1, none⟩) h01 (.string v.text)) (p := ⟨w.heap.size, 2, none⟩) h01 (.slice la v.list.length lc)) (p := ⟨w.heap.size, 3, none⟩) h01 (.slice fa v.fields.length fc)) 0 (.int .i64 0)) (p := ⟨w.heap.size + 1 + 1, 0, none⟩) h12.symm (.int .i64 0)
      have q3 := blk_set (blk_set_ne (blk_set_ne (blk_set_ne (blk_set_ne (blk_set_ne W4.r2 (p := ⟨w.heap.size, 0, none⟩) h02 (.int .u8 v.kind)) (p := ⟨w.heap.size, 1, none⟩) h02 (.string v.text)) (p := ⟨w.heap.size, 2, none⟩) h02 (.slice la v.list.length lc)) (p := ⟨w.heap.size, 3, none⟩) h02 (.slice fa v.fields.length fc)) (p := ⟨w.heap.size + 1, 0, none⟩) h12 (.int .i64 0)) 0 (.int .i64 0)
      refine leaves_cons (f := 12) (args := #[.pointer (some ⟨w.heap.size, 0, none⟩), .pointer (some ⟨w.heap.size + 1, 0, none⟩), .pointer (some ⟨w.heap.size + 1 + 1, 0, none⟩)]) (by simp) (by simp [go_sem]) ?_
      refine (catch_idle ⟨w.heap.size, 0, none⟩ ⟨w.heap.size + 1, 0, none⟩ ⟨w.heap.size + 1 + 1, 0, none⟩ _).mono ?_
      rintro e u' w'' ⟨rfl, rfl, rfl⟩
      show Leaves _ _ _ _ [] .returning _
      rw [HP.out]
      refine ⟨_, results_parse rfl _ _ _ _ _ rfl rfl rfl q1 q2 q3, ⟨_, rfl, RepV.move ?_ ?_ _ _ hv4⟩, ?_⟩
      · intro k hk _; omega
      · intro k hk _
        have h1 : k ≠ w.heap.size := by omega
        have h2 : k ≠ w.heap.size + 1 := by omega
        have h3 : k ≠ w.heap.size + 1 + 1 := by omega
        exact (heap_set_ne h3).trans ((heap_set_ne h2).trans ((heap_set_ne h1).trans ((heap_set_ne h1).trans ((heap_set_ne h1).trans (heap_set_ne h1)))))
      · exact (((((W4.bl.setCell (p := ⟨w.heap.size, 0, none⟩) (Nat.le_refl _) _).setCell (p := ⟨w.heap.size, 1, none⟩) (Nat.le_refl _) _).setCell (p := ⟨w.heap.size, 2, none⟩) (Nat.le_refl _) _).setCell (p := ⟨w.heap.size, 3, none⟩) (Nat.le_refl _) _).setCell (p := ⟨w.heap.size + 1, 0, none⟩) (by show _ ≤ w.heap.size + 1; omega) _).setCell (p := ⟨w.heap.size + 1 + 1, 0, none⟩) (by show _ ≤ w.heap.size + 1 + 1; omega) _
  · have hgt : (262144 : Int) < (s.size : Int) := by omega
    go_enter_defers Tryd.func7, Tryd.ntmps7
    go_wp2_with fail
    have r0 := blk_alloc (blk_alloc (blk_new w (.cells #[.int .u8 0, .string ⟨#[]⟩, .slice none 0 0, .slice none 0 0] 25)) (.cells #[.int .i64 0] 3)) (.cells #[.int .i64 3] 26)
    have r1 := blk_alloc (blk_new (w.alloc (.cells #[.int .u8 0, .string ⟨#[]⟩, .slice none 0 0, .slice none 0 0] 25)) (.cells #[.int .i64 0] 3)) (.cells #[.int .i64 3] 26)
    have r2 := blk_new ((w.alloc (.cells #[.int .u8 0, .string ⟨#[]⟩, .slice none 0 0, .slice none 0 0] 25)).alloc (.cells #[.int .i64 0] 3)) (.cells #[.int .i64 3] 26)
    simp only [World.size_alloc] at r1 r2
    have hP : Js.parse s.data.toList = (JV.null, 0, 3) := by
      unfold Js.parse
      rw [len_data, if_pos (by omega)]
    rw [hP]
    refine ⟨_, results_parse rfl _ _ _ _ _ rfl rfl rfl r0 r1 r2, ⟨_, rfl, RepV.leaf _ _ _ _⟩, ?_⟩
    exact gb_below (gb_alloc (gb_alloc (gb_alloc (World.grownBy.refl _ _) _) _) _)
end Go.Proofs.YtgnobnbbjekgnaaDoor
