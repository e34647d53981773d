import Derived.Test.YtgnobnbbjekgnaaDoorJok
import Derived.Deep.DrawnRows
import Derived.Deep.RegionLaw
import Derived.RegionDies
/- The JSON reader: lists, the walk. -/
namespace Go.Proofs.YtgnobnbbjekgnaaDoor
open Go.RowKit
set_option linter.unusedVariables false
attribute [local go_sem ↓] Go.wp_at_zero Go.wp_at_succ

/-- Values at so many levels are read. -/
def ValAt (s : ByteArray) (d : Nat) : Prop := ∀ (b i : Nat) (w : World) (z : Int), z + (d : Int) = 65 → i ≤ s.size → RdAt w b s i → Env w → NotG b →
  Calls Tryd.prog 14 #[.pointer (some ⟨b, 0, none⟩), .int .i64 z] w (VPost b s w (Js.value s.data.toList d i))
def lstVal (r : Js.R (List JV)) : Js.R JV := match r with | .ok (xs, j) => .ok (.mk 5 ⟨#[]⟩ xs [], j) | .error e => .error e

/-- A list being read: where what lies. -/
structure LstAt (b : Nat) (s : ByteArray) (w0 : World) (p : Nat) (acc : List JV) (lv : Value) (xs : List Value) (wx : World) : Prop where
  rd : RdAt wx b s p
  env : Env wx
  gb : w0.grownBy wx (some b)
  res : wx.heap[w0.heap.size]? = some (.cells #[.int .u8 0, .string ⟨#[]⟩, .slice none 0 0, .slice none 0 0] 25 (0, 0))
  loc : wx.heap[w0.heap.size + 1]? = some (.cells #[.int .u8 5, .string ⟨#[]⟩, lv, .slice none 0 0] 25 (0, 0))
  own : wx.ownsRow (w0.heap.size + 2) 25 4 lv acc.length xs
  rep : RepL (fun k => w0.heap.size + 2 ≤ k ∧ lv.ownBlock ≠ some k) wx acc xs
  nl : acc = [] → lv = .slice none 0 0
theorem LstAt.step {b : Nat} {s : ByteArray} {w0 : World} {p : Nat} {acc : List JV} {lv : Value} {xs : List Value} {wx wy : World} (h : LstAt b s w0 p acc lv xs wx) (hB : b < w0.heap.size) (hb : NotG b) {q : Nat} (hr : RdAt wy b s q) (hg : wx.grownBy wy (some b)) : LstAt b s w0 q acc lv xs wy where
  rd := hr
  env := h.env.grown hg (fun j e => by cases e; exact hb)
  gb := h.gb.trans hg
  res := blk_grown h.res hg (fun e => by cases e; omega)
  loc := blk_grown h.loc hg (fun e => by cases e; omega)
  own := h.own.kept hg (by
    rcases hv : lv.ownBlock with _ | k
    · exact .inl rfl
    · exact .inr (fun e => by cases e; have := (h.own.lt _ hv).1; omega))
  rep := RepL.move (fun k hk _ => hk) (fun k hk hl => hg.block k hl (fun e => by cases e; have := hk.1; omega)) _ _ h.rep
  nl := h.nl
theorem LstAt.drewN {b : Nat} {s : ByteArray} {w0 : World} {p : Nat} {acc : List JV} {lv : Value} {xs : List Value} {wx : World} (h : LstAt b s w0 p acc lv xs wx) (hB : b < w0.heap.size) (hb : NotG b) (n : Nat) : LstAt b s w0 p acc lv xs (wx.drewN n) := h.step hB hb (h.rd.drewN n) (gb_drewN (World.grownBy.refl _ _) n)

theorem LstAt.push {b : Nat} {s : ByteArray} {w0 : World} {p k : Nat} {acc : List JV} {lv nv vv : Value} {xs cs : List Value} {wc w4 w5 : World} {v : JV} {o : Obj} (h : LstAt b s w0 p acc lv xs wc) (hB : b < w0.heap.size) (hb : NotG b) (hE0 : Env w0) (hg4 : wc.grownBy w4 (some b)) (hr4 : RdAt w4 b s k)
    (hv : RepV (fun k => wc.heap.size ≤ k) w4 v vv) (hcs : vv.cells.toList = cs) (hgrow : (w4.alloc o).grownBy w5 lv.ownBlock) (hown : w5.ownsRow (w0.heap.size + 2) 25 4 nv (acc.length + 1) (xs ++ cs)) (hat : lv.ownBlock = nv.ownBlock ∨ nv.ownBlock = some (w4.heap.size + 1)) :
    LstAt b s w0 k (acc ++ [v]) nv (xs ++ cs) (w5.setCell ⟨w0.heap.size + 1, 2, none⟩ nv) := by
  have hsz : wc.heap.size ≤ w4.heap.size := hg4.size
  have hbase := lt_of_block h.loc
  have hA : ∀ k, k < w4.heap.size → lv.ownBlock ≠ some k → w5.heap[k]? = w4.heap[k]? := fun k hk hne => by
    rw [hgrow.block k (by rw [World.size_alloc]; omega) (fun e => hne e.symm), Lib.alloc_old w4 _ k hk]
  have hC : ∀ k, k < wc.heap.size → k ≠ b → w4.heap[k]? = wc.heap[k]? := fun k hk hne => hg4.block k hk (fun e => hne (by cases e; rfl))
  have hS : ∀ k, k ≠ w0.heap.size + 1 → (w5.setCell ⟨w0.heap.size + 1, 2, none⟩ nv).heap[k]? = w5.heap[k]? := fun k hk => heap_set_ne hk
  have hlow : ∀ k, k < w0.heap.size + 2 → lv.ownBlock ≠ some k := fun k hk e => by have := (h.own.lt k e).1; omega
  have hgb : w0.grownBy w5 (some b) := gb_then (gb_alloc (h.gb.trans hg4) o) hgrow (fun j e => .inl (by have := (h.own.lt j e).1; omega))
  have hrow : ∀ j, lv.ownBlock = some j → NotG j := fun j e => hE0.new (by have := (h.own.lt j e).1; omega)
  have henv : Env w5 := ((h.env.grown hg4 (fun j e => by cases e; exact hb)).grown (World.grownBy_alloc _ _ none) (fun j e => by cases e)).grown hgrow hrow
  have hsz5 : w4.heap.size + 1 ≤ w5.heap.size := by have := hgrow.size; rw [World.size_alloc] at this; exact this
  have hnv : ∀ k, k < w4.heap.size → lv.ownBlock ≠ some k → nv.ownBlock ≠ some k := fun k hk hne e => by
    rcases hat with h1 | h1
    · exact hne (h1.trans e)
    · rw [h1] at e; cases e; omega
  refine ⟨?_, henv.grown (gb_set 2 nv) (fun j e => by cases e; exact hE0.new (by omega)), gb_setCell hgb (.inl (by show _ ≤ w0.heap.size + 1; omega)) _, ?_, ?_, ?_, ?_, fun e => by simp at e⟩
  · show (w5.setCell _ nv).heap[b]? = _
    rw [hS b (by omega), hA b hr4.lt (hlow b (by omega))]; exact hr4
  · rw [hS _ (by omega), hA _ (by omega) (hlow _ (by omega)), hC _ (by omega) (by omega)]; exact h.res
  · have : w5.heap[w0.heap.size + 1]? = some (.cells #[.int .u8 5, .string ⟨#[]⟩, lv, .slice none 0 0] 25 (0, 0)) := by
      rw [hA _ (by omega) (hlow _ (by omega)), hC _ (by omega) (by omega)]; exact h.loc
    exact (blk_set this 2 nv).trans rfl
  · rw [List.length_append]
    exact row_move hown (fun g e => hS g (by have := (hown.lt g e).1; omega))
  · rw [← hcs]
    refine RepL.snoc (RepV.move ?_ ?_ _ _ hv) (RepL.move ?_ ?_ _ _ h.rep)
    · intro k hk hl
      exact ⟨by omega, hnv k hl (fun e => by have := (h.own.lt k e).2; omega)⟩
    · intro k hk hl
      rw [hS k (by omega), hA k hl (fun e => by have := (h.own.lt k e).2; omega)]
    · intro k hk hl
      exact ⟨hk.1, hnv k (by omega) hk.2⟩
    · intro k hk hl
      rw [hS k (by have := hk.1; omega), hA k (by omega) hk.2, hC k hl (by have := hk.1; omega)]

set_option maxRecDepth 100000 in
set_option maxHeartbeats 2000000 in
theorem list_calls (d b : Nat) (s : ByteArray) (i : Nat) (w : World) (z : Int) (hz : z + (d : Int) = 64) (hd0 : d ≤ 64) (hs : s.size ≤ 262144) (hi : i < s.size) (hr : RdAt w b s i) (hE : Env w) (hb : NotG b) (hV : ValAt s d) :
    Calls Tryd.prog 23 #[.pointer (some ⟨b, 0, none⟩), .int .i64 z] w (VPost b s w (lstVal (Js.listL s.data.toList (Js.value s.data.toList d) (s.size + 1) (Js.blanks s.data.toList (i + 1)) []))) := by
  have hh : ∀ w j, RdAt w b s j → j ≤ s.size → Calls Tryd.prog 20 #[.pointer (some ⟨b, 0, none⟩)] w fun e w' => e = .returned (.int .u8 ((Js.hd s.data.toList j : Nat) : Int)) ∧ ∃ n, w' = w.drewN n := fun w j h hj => hand_calls b s j w (by omega) hj h
  have H := Lib.hid hh
  clear hh
  have BL := Lib.hid (fun wx j (h : RdAt wx b s j) (hj : j ≤ s.size) => blanks_calls b s j wx (by omega) hj h)
  obtain ⟨r, hR⟩ : ∃ r, Js.listL s.data.toList (Js.value s.data.toList d) (s.size + 1) (Js.blanks s.data.toList (i + 1)) [] = r := ⟨_, rfl⟩
  rw [hR]
  have R := Lib.hid hR
  clear hR
  have hV' := Lib.hid hV
  clear hV
  have c1 := hr.c1
  have f1 := hr.f1
  have hbB : b < w.heap.size := hr.lt
  have hr1 : RdAt (w.setCell ⟨b, 1, none⟩ (.int .i64 ((i : Int) + 1))) b s (i + 1) := hr.set (i + 1) (by omega)
  have hg1 : w.grownBy (w.setCell ⟨b, 1, none⟩ (.int .i64 ((i : Int) + 1))) (some b) := gb_set 1 _
  have hz1 : (w.setCell ⟨b, 1, none⟩ (.int .i64 ((i : Int) + 1))).heap.size = w.heap.size := by simp [World.setCell]
  have hp1 : Js.blanks s.data.toList (i + 1) ≤ s.size := blanksS (by omega)
  go_enter Tryd.func23, Tryd.ntmps23
  go_wp2_with fail
  refine (BL.out _ (i + 1) (blk_alloc (blk_alloc hr1 _) _) (by omega)).mono ?_
  rintro e w1 ⟨rfl, hr2, hg2⟩
  have L1 : LstAt b s w (Js.blanks s.data.toList (i + 1)) [] (.slice none 0 0) [] w1 := by
    refine LstAt.step (p := i + 1) ⟨blk_alloc (blk_alloc hr1 _) _, ((hE.grown hg1 (fun j e => by cases e; exact hb)).grown (World.grownBy_alloc _ _ (some b)) (fun j e => by cases e; exact hb)).grown (World.grownBy_alloc _ _ (some b)) (fun j e => by cases e; exact hb), gb_alloc (gb_alloc hg1 _) _, ?_, ?_, World.ownsRow_nil _ _ _ _, by simp [RepL], fun _ => rfl⟩ hbB hb hr2 hg2
    · refine blk_alloc ?_ _
      have := blk_new (w.setCell ⟨b, 1, none⟩ (.int .i64 ((i : Int) + 1))) (.cells #[.int .u8 0, .string ⟨#[]⟩, .slice none 0 0, .slice none 0 0] 25)
      rw [hz1] at this
      exact this
    · have := blk_new ((w.setCell ⟨b, 1, none⟩ (.int .i64 ((i : Int) + 1))).alloc (.cells #[.int .u8 0, .string ⟨#[]⟩, .slice none 0 0, .slice none 0 0] 25)) (.cells #[.int .u8 5, .string ⟨#[]⟩, .slice none 0 0, .slice none 0 0] 25)
      simp only [World.size_alloc, hz1] at this
      exact this
  have hE0 := hE
  clear hr hE c1 f1 hr1 hg1 hr2 hg2
  go_wp2_with fail
  go_loopg [] (s.size + 1) (fun q wr => ∃ (p : Nat) (acc : List JV) (lv : Value) (xs : List Value), s.size + 1 ≤ q + p ∧ p ≤ s.size ∧ acc.length ≤ p ∧ LstAt b s w p acc lv xs wr ∧ Js.listL s.data.toList (Js.value s.data.toList d) q p acc = r)
  case atStart => exact ⟨Js.blanks s.data.toList (i + 1), [], _, [], by omega, hp1, by simp, L1, R.out⟩
  case round =>
    obtain ⟨p, acc, lv, xs, hq, hp, ha, L, he⟩ := hrel
    obtain ⟨q, rfl⟩ : ∃ q, gk = q + 1 := ⟨gk - 1, by omega⟩
    rw [Js.listL] at he
    have hr' := L.rd
    clear L1
    by_cases h93 : Js.hd s.data.toList p = 93
    · rw [if_pos h93] at he
      have hin := hd_pos (s := s) (i := p) (by omega)
      have k1 := ne_f (show ((Js.hd s.data.toList p : Nat) : Int) = 93 by omega)
      have R := Lib.hid he
      clear he h93
      obtain ⟨ao, cap, rfl⟩ := row_slice L.own
      go_wp2_with fail
      refine (H.out _ p hr' hp).mono ?_; rintro e w' ⟨rfl, n, rfl⟩
      have L := L.drewN hbB hb n
      generalize wr.drewN n = w2 at *
      have c1 := L.rd.c1
      have f1 := L.rd.f1
      have e0 := blk_cell L.loc 0
      have e1 := blk_cell L.loc 1
      have e2 := blk_cell L.loc 2
      have e3 := blk_cell L.loc 3
      have d0 := blk_cell L.res 0
      have d1 := blk_cell L.res 1
      have d2 := blk_cell L.res 2
      have d3 := blk_cell L.res 3
      have g0 := blk_free L.res 0
      have g1 := blk_free L.res 1
      have g2 := blk_free L.res 2
      have g3 := blk_free L.res 3
      simp only [List.getElem?_toArray, List.getElem?_cons_zero, List.getElem?_cons_succ] at e0 e1 e2 e3 d0 d1 d2 d3
      go_wp2_with fail
      have hF := blk_set (blk_set (blk_set (blk_set (blk_set_ne L.res (p := ⟨b, 1, none⟩) (by show b ≠ _; omega) (.int .i64 ((p : Int) + 1))) 0 (.int .u8 5)) 1 (.string ⟨#[]⟩)) 2 (.slice ao acc.length cap)) 3 (.slice none 0 0)
      have hG : w2.grownBy _ (some b) := gb_set (w := w2) (b := b) 1 (.int .i64 ((p : Int) + 1))
      refine bodyPost_ret (results_val rfl _ _ _ rfl hF) rfl ?_
      refine VPost.mkOk (by rw [← R.out]; rfl) rfl ?_ ?_ ?_
      · refine RepV.mk' (World.ownsRow.mono (row_move L.own ?_) (Nat.zero_le _)) ?_ (RepL.move ?_ ?_ _ _ L.rep) (World.ownsRow_nil _ _ _ _) (by simp [Value.ownBlock]) (by simp [RepF]) L.nl (fun _ => rfl)
        · intro g hg
          have := (L.own.lt g hg).1
          have h1 : g ≠ b := by omega
          have h2 : g ≠ w.heap.size := by omega
          exact (heap_set_ne h2).trans ((heap_set_ne h2).trans ((heap_set_ne h2).trans ((heap_set_ne h2).trans (heap_set_ne h1))))
        · intro g hg
          have := (L.own.lt g hg).1
          omega
        · intro k hk _
          have := hk.1
          omega
        · intro g hg _
          have := hg.1
          have h1 : g ≠ b := by omega
          have h2 : g ≠ w.heap.size := by omega
          exact (heap_set_ne h2).trans ((heap_set_ne h2).trans ((heap_set_ne h2).trans ((heap_set_ne h2).trans (heap_set_ne h1))))
      · have hne : ∀ o, (⟨w.heap.size, o, none⟩ : Addr).block ≠ b := fun o => by show w.heap.size ≠ b; omega
        exact blk_set_ne (blk_set_ne (blk_set_ne (blk_set_ne (L.rd.set (p + 1) (by omega)) (hne 0) _) (hne 1) _) (hne 2) _) (hne 3) _
      · exact gb_setCell (gb_setCell (gb_setCell (gb_setCell (L.gb.trans hG) (.inl (Nat.le_refl _)) _) (.inl (Nat.le_refl _)) _) (.inl (Nat.le_refl _)) _) (.inl (Nat.le_refl _)) _
    rw [if_neg h93] at he
    have k1 := ne_t (show ((Js.hd s.data.toList p : Nat) : Int) ≠ 93 by omega)
    clear h93
    rcases hc : Js.comma s.data.toList acc.isEmpty p with ⟨p1, q1⟩ | j
    · rw [hc] at he
      have R := Lib.hid (show .error (p1, q1) = r from he)
      clear he
      have hne : acc ≠ [] := by intro h; rw [h] at hc; unfold Js.comma at hc; simp at hc
      have hpos : 0 < acc.length := List.length_pos_iff.2 hne
      have hw : Js.word s.data.toList [44] p = .error (p1, q1) := by
        unfold Js.comma at hc
        rw [if_neg (by simp [hne])] at hc
        rcases hw : Js.word s.data.toList [44] p with e | k
        · rw [hw] at hc; exact hc
        · rw [hw] at hc; cases hc
      have HW := Lib.hid (show ∀ wx, RdAt wx b s p → _ from fun wx h => word_calls b s ⟨#[44]⟩ p wx (by omega) (by decide) hp h (by simp))
      have HX := Lib.hid (show Js.word s.data.toList ((⟨#[44]⟩ : ByteArray).data.toList.map UInt8.toNat) p = .error (p1, q1) from hw)
      obtain ⟨ao, cap, rfl⟩ := row_slice L.own
      have k2 : (0 : Int) < (acc.length : Int) := by omega
      clear hc hne hw hpos
      go_wp2_with fail
      refine (H.out _ p hr' hp).mono ?_; rintro e w' ⟨rfl, n, rfl⟩
      have L := L.drewN hbB hb n
      generalize wr.drewN n = w2 at *
      have e2 := blk_cell L.loc 2
      simp only [List.getElem?_toArray, List.getElem?_cons_zero, List.getElem?_cons_succ] at e2
      go_wp2_with fail
      refine (HW.out _ L.rd).mono ?_
      intro e w' hp
      rw [HX.out] at hp
      obtain ⟨rfl, hg2⟩ := RPost.error hp
      exact end_panic rfl (VPost.mkErr (by rw [← R.out]; rfl) rfl (L.gb.trans hg2))
    rw [hc] at he
    simp only at he
    have hj := comma_ok hc hp
    have R := Lib.hid he
    have HC := Lib.hid hc
    have HW := Lib.hid (fun wx (h : RdAt wx b s p) => word_calls b s ⟨#[44]⟩ p wx (by omega) (by decide) hp h (by simp))
    obtain ⟨ao, cap, rfl⟩ := row_slice L.own
    clear he hc
    have e2 := blk_cell L.loc 2
    simp only [List.getElem?_toArray, List.getElem?_cons_zero, List.getElem?_cons_succ] at e2
    go_upto_if 22 with (go_at_call 20; refine (H.out _ p hr' hp).mono ?_; rintro e w' ⟨rfl, n, rfl⟩)
    have L := L.drewN hbB hb n
    generalize wr.drewN n = w2 at *
    go_cut [] (fun wx => LstAt b s w j acc (.slice ao acc.length cap) xs wx)
    case first =>
      have hc := HC.out
      unfold Js.comma at hc
      by_cases hne : acc = []
      · rw [if_pos (by simp [hne])] at hc
        cases hc
        have k2 : ¬((0 : Int) < (acc.length : Int)) := by simp [hne]
        clear hne
        go_wp2_with fail
        go_meet
        exact L
      · rw [if_neg (by simp [hne])] at hc
        have hpos : 0 < acc.length := List.length_pos_iff.2 hne
        have k2 : (0 : Int) < (acc.length : Int) := by omega
        rcases hw : Js.word s.data.toList [44] p with e | k
        · rw [hw] at hc; cases hc
        · rw [hw] at hc
          have hk := word_ok hw (by simp) hp
          have HX := Lib.hid (show Js.word s.data.toList ((⟨#[44]⟩ : ByteArray).data.toList.map UInt8.toNat) p = .ok k from hw)
          have HJ := Lib.hid (show Js.blanks s.data.toList k = j from by cases hc; rfl)
          clear hc hne hw hpos
          go_wp2_with fail
          refine (HW.out _ L.rd).mono ?_
          intro e w' hpx
          rw [HX.out] at hpx
          obtain ⟨rfl, hr3, hg3⟩ := RPost.ok hpx
          clear hpx
          go_wp2_with fail
          refine (BL.out _ k hr3 hk.2).mono ?_
          rintro e w4 ⟨rfl, hr4, hg4⟩
          go_wp2_with fail
          go_meet
          rw [HJ.out] at hr4
          exact L.step hbB hb hr4 (hg3.trans hg4)
    case rest =>
      have he := R.out
      clear HC HW e2 hr' L
      have zw : IntKind.i64.wrap (z + 1) = z + 1 := IntWalk.i64_in _ (by omega)
      have e2 := blk_cell hcut.loc 2
      have g2 := blk_free hcut.loc 2
      simp only [List.getElem?_toArray, List.getElem?_cons_zero, List.getElem?_cons_succ] at e2
      have V := fun wx (h : RdAt wx b s j) (h' : Env wx) => hV'.out b j wx (z + 1) (by omega) hj.2 h h' hb
      rcases hx : Js.value s.data.toList d j with ⟨p1, q1⟩ | ⟨v, k⟩
      · rw [hx] at he V
        have R := Lib.hid (show .error (p1, q1) = r from he)
        have V := Lib.hid V
        clear he hx
        go_wp2_with fail
        go_region_dies
        all_goals
          refine (V.out _ (by first | exact hcut.rd | exact hcut.rd.drewN _) (by first | exact hcut.env | exact hcut.env.drewN _)).mono ?_
          intro e w4 hpx
          obtain ⟨rfl, hg4⟩ := VPost.error hpx
          exact end_panic rfl (VPost.mkErr (by rw [← R.out]; rfl) rfl (hcut.gb.trans ⟨hg4.os, hg4.tape, hg4.output, hg4.size, hg4.block⟩))
      · rw [hx] at he V
        have hk := value_ok s d hx hj.2
        have he' : Js.listL s.data.toList (Js.value s.data.toList d) q (Js.blanks s.data.toList k) (acc ++ [v]) = r := he
        have R := Lib.hid he'
        have V := Lib.hid V
        clear he he' hx
        obtain ⟨i0, hi0, hz0, hz1, hz2⟩ := info_parts' (show (Tryd.prog.info? 25).map (fun i => (i.zero, i.size, i.bytes)) = some (some (.agg #[.int .u8 0, .string ⟨#[]⟩, .slice none 0 0, .slice none 0 0]), 4, 72) by kernel_rfl)
        have OWN : LstAt b s w j acc (.slice ao acc.length cap) xs wc → ((Value.slice ao acc.length cap).ownBlock = none ∨ (Value.slice ao acc.length cap).ownBlock ≠ some b) := fun h => by
          rcases hv : (Value.slice ao acc.length cap).ownBlock with _ | k
          · exact .inl rfl
          · exact .inr (fun e => by cases e; have := (h.own.lt _ hv).1; omega)
        have LOC : ∀ (w4 w5 : World) (o : Obj), wc.grownBy w4 (some b) → (w4.alloc o).grownBy w5 (Value.slice ao acc.length cap).ownBlock → w5.heap[w.heap.size + 1]? = some (.cells #[.int .u8 5, .string ⟨#[]⟩, .slice ao acc.length cap, .slice none 0 0] 25 (0, 0)) := fun w4 w5 o h1 h2 =>
          blk_grown (blk_alloc (blk_grown hcut.loc h1 (fun e => by cases e; omega)) o) h2 (fun e => by have := (hcut.own.lt _ e.symm).1; omega)
        have LOC0 : ∀ (w4 : World), wc.grownBy w4 (some b) → w4.cell? ⟨w.heap.size + 1, 2, none⟩ = some (.slice ao acc.length cap) := fun w4 h1 =>
          (blk_cell (blk_grown hcut.loc h1 (fun e => by cases e; omega)) 2).trans rfl
        have LOC1 : ∀ (w4 : World), wc.grownBy w4 (some b) → ∀ o, (w4.alloc o).cell? ⟨w.heap.size + 1, 2, none⟩ = some (.slice ao acc.length cap) := fun w4 h1 o =>
          (blk_cell (blk_alloc (blk_grown hcut.loc h1 (fun e => by cases e; omega)) o) 2).trans rfl
        go_wp2_with fail
        go_region_law (first
          | (go_simp; go_at_call 14; refine (V.out _ (by first | exact hcut.rd | exact hcut.rd.drewN _) (by first | exact hcut.env | exact hcut.env.drewN _)).mono ?_; intro e w4 hpx; obtain ⟨⟨vv, rfl, hv⟩, hr4, hg4⟩ := VPost.ok hpx; clear hpx; obtain ⟨la, lc, fa, fc, rfl⟩ := hv.cells; have e4 := LOC0 w4 ⟨hg4.os, hg4.tape, hg4.output, hg4.size, hg4.block⟩; have n4 := LOC1 w4 ⟨hg4.os, hg4.tape, hg4.output, hg4.size, hg4.block⟩)
          | (refine step_append_lies _ (by rfl) _ _ _ (by rfl) (w.heap.size + 2) 25 i0 _ 4 72 Tryd.underlying22 hi0 hz0 hz1 hz2 rfl (by omega) (.slice ao acc.length cap) acc.length xs (by rfl) ((hcut.own.kept (w' := w4) (row := some b) ⟨hg4.os, hg4.tape, hg4.output, hg4.size, hg4.block⟩ (OWN hcut)).alloc _) ⟨w4.heap.size, 0, none⟩ 1 1 [.int .u8 v.kind, .string v.text, .slice la v.list.length lc, .slice fa v.fields.length fc] (by rfl) (by rfl) (World.news_of_block (cs := #[.int .u8 v.kind, .string v.text, .slice la v.list.length lc, .slice fa v.fields.length fc]) (t := 25) (fr := (0, 0)) (heap_alloc_new w4 _)) (by simp [Value.oneCell']) (by omega) (by unfold maxLen; omega) (by omega) (by have h1 : wc.heap.size ≤ w4.heap.size := hg4.size; have := lt_of_block hcut.loc; rw [World.size_alloc]; omega) (w4.heap.size + 1) (by simp) ?_; intro g cap' w5 hown5 hgrow hat hlt; have b5 := LOC w4 w5 _ ⟨hg4.os, hg4.tape, hg4.output, hg4.size, hg4.block⟩ hgrow; have e5 := (blk_cell b5 2).trans rfl; have g5 := blk_free b5 2))
        all_goals
          have L6 := hcut.push hbB hb hE0 (w4 := w4) ⟨hg4.os, hg4.tape, hg4.output, hg4.size, hg4.block⟩ hr4 hv rfl hgrow hown5 (by
            rcases hat with h | h
            · exact .inl h
            · exact .inr (by rw [h]; rfl))
          clear e2 g2 hcut
          generalize w5.setCell ⟨w.heap.size + 1, 2, none⟩ (.slice (some ⟨g, 0, none⟩) (acc.length + 1) cap') = w6 at *
          go_wp2_with fail
          refine (BL.out _ k L6.rd hk.2).mono ?_
          rintro e w7 ⟨rfl, hr7, hg7⟩
          go_wp2_with fail
          have he := R.out
          have hkb := blanks_ge s.data.toList k
          have hkc := blanksS (s := s) hk.2
          go_roundg q
          case measure => omega
          case rel => exact ⟨Js.blanks s.data.toList k, acc ++ [v], _, _, by omega, hkc, by rw [List.length_append]; simp only [List.length_cons, List.length_nil]; omega, L6.step hbB hb hr7 hg7, he⟩
end Go.Proofs.YtgnobnbbjekgnaaDoor
