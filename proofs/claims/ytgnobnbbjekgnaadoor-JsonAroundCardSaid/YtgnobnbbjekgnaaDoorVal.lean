import Derived.Test.YtgnobnbbjekgnaaDoorObj
/- The JSON reader: values, the walk. -/
namespace Go.Proofs.YtgnobnbbjekgnaaDoor
open Go.RowKit
set_option linter.unusedVariables false

/-- The result is stored: it lies there. -/
theorem val_fin {b : Nat} {s : ByteArray} {w wy : World} {j : Nat} {t : JV} {c0 c1 c2 c3 : Value} {ok : Nat → Prop} {cs : Array Value} (hg : w.grownBy wy (some b)) (hcs : cs.size = 4) (hres : wy.heap[w.heap.size]? = some (.cells cs 25 (0, 0))) (hrd : RdAt wy b s j) (hB : b < w.heap.size)
    (hv : RepV ok wy t (.agg #[c0, c1, c2, c3])) (hok : ∀ k, ok k → w.heap.size < k) :
    ((((wy.setCell ⟨w.heap.size, 0, none⟩ c0).setCell ⟨w.heap.size, 1, none⟩ c1).setCell ⟨w.heap.size, 2, none⟩ c2).setCell ⟨w.heap.size, 3, none⟩ c3).heap[w.heap.size]? = some (.cells #[c0, c1, c2, c3] 25 (0, 0)) ∧
    RepV (fun k => w.heap.size ≤ k) ((((wy.setCell ⟨w.heap.size, 0, none⟩ c0).setCell ⟨w.heap.size, 1, none⟩ c1).setCell ⟨w.heap.size, 2, none⟩ c2).setCell ⟨w.heap.size, 3, none⟩ c3) t (.agg #[c0, c1, c2, c3]) ∧
    RdAt ((((wy.setCell ⟨w.heap.size, 0, none⟩ c0).setCell ⟨w.heap.size, 1, none⟩ c1).setCell ⟨w.heap.size, 2, none⟩ c2).setCell ⟨w.heap.size, 3, none⟩ c3) b s j ∧
    w.grownBy ((((wy.setCell ⟨w.heap.size, 0, none⟩ c0).setCell ⟨w.heap.size, 1, none⟩ c1).setCell ⟨w.heap.size, 2, none⟩ c2).setCell ⟨w.heap.size, 3, none⟩ c3) (some b) := by
  have hF := blk_set (blk_set (blk_set (blk_set hres 0 c0) 1 c1) 2 c2) 3 c3
  have hne : ∀ o, (⟨w.heap.size, o, none⟩ : Addr).block ≠ b := fun o => by show w.heap.size ≠ b; omega
  refine ⟨?_, ?_, ?_, ?_⟩
  · rw [hF]
    obtain ⟨l⟩ := cs
    match l, hcs with
    | [a, b, c, d], _ => rfl
  · refine RepV.move (fun k hk _ => by have := hok k hk; omega) (fun k hk _ => ?_) _ _ hv
    have h2 : k ≠ w.heap.size := by have := hok k hk; omega
    exact (heap_set_ne h2).trans ((heap_set_ne h2).trans ((heap_set_ne h2).trans (heap_set_ne h2)))
  · exact blk_set_ne (blk_set_ne (blk_set_ne (blk_set_ne hrd (hne 0) _) (hne 1) _) (hne 2) _) (hne 3) _
  · exact gb_setCell (gb_setCell (gb_setCell (gb_setCell hg (.inl (Nat.le_refl _)) _) (.inl (Nat.le_refl _)) _) (.inl (Nat.le_refl _)) _) (.inl (Nat.le_refl _)) _

abbrev zeroV : Array Value := #[.int .u8 0, .string ⟨#[]⟩, .slice none 0 0, .slice none 0 0]

set_option maxRecDepth 100000 in
set_option maxHeartbeats 4000000 in
theorem value_step (d : Nat) (s : ByteArray) (hd : d ≤ 64) (hs : s.size ≤ 262144) (hV : ∀ d', d = d' + 1 → ValAt s d') : ValAt s d := by
  intro b i w z hz hi hr hE hb
  obtain ⟨r, hR⟩ : ∃ r, Js.value s.data.toList d i = r := ⟨_, rfl⟩
  rw [hR]
  have R := Lib.hid hR
  clear hR
  have hV' := Lib.hid hV
  clear hV
  have hbB : b < w.heap.size := hr.lt
  have A1 : RdAt (w.alloc (.cells #[.int .u8 0, .string ⟨#[]⟩, .slice none 0 0, .slice none 0 0] 25)) b s i := blk_alloc hr _
  have A2 := gb_alloc (World.grownBy.refl w (some b)) (.cells #[.int .u8 0, .string ⟨#[]⟩, .slice none 0 0, .slice none 0 0] 25)
  have A3 := blk_new w (.cells #[.int .u8 0, .string ⟨#[]⟩, .slice none 0 0, .slice none 0 0] 25)
  have A4 := hE.grown (World.grownBy_alloc w (.cells #[.int .u8 0, .string ⟨#[]⟩, .slice none 0 0, .slice none 0 0] 25) (some b)) (fun j e => by cases e; exact hb)
  go_enter Tryd.func14, Tryd.ntmps14
  go_wp2_with fail
  refine (hand_calls b s i _ (by omega) hi A1).mono ?_; rintro e w' ⟨rfl, n, rfl⟩
  have A1 := A1.drewN n
  have A2 := gb_drewN A2 n
  have A4 := A4.drewN n
  have A3 : ((w.alloc (.cells #[.int .u8 0, .string ⟨#[]⟩, .slice none 0 0, .slice none 0 0] 25)).drewN n).heap[w.heap.size]? = _ := A3
  generalize (w.alloc (.cells #[.int .u8 0, .string ⟨#[]⟩, .slice none 0 0, .slice none 0 0] 25)).drewN n = w1 at *
  have he := R.out
  unfold Js.value at he
  clear R
  by_cases h110 : Js.hd s.data.toList i = 110
  · rw [if_pos h110] at he
    have k110 := eq_t (show ((Js.hd s.data.toList i : Nat) : Int) = 110 by omega)
    clear h110
    have R := Lib.hid he
    clear he
    go_wp2_with fail
    refine (word_calls b s ⟨#[110, 117, 108, 108]⟩ i w1 (by omega) (by decide) hi A1 (by simp)).mono ?_
    intro e w2 hpx
    have hpx : RPost b s w1 (noVal (Js.word s.data.toList [110, 117, 108, 108] i)) e w2 := hpx
    have he := R.out
    clear R
    unfold Js.wordV at he
    rcases hw : Js.word s.data.toList [110, 117, 108, 108] i with ⟨p1, q1⟩ | j
    · rw [hw] at he hpx
      obtain ⟨rfl, hg2⟩ := RPost.error hpx
      exact end_panic rfl (VPost.mkErr he.symm rfl (A2.trans hg2))
    rw [hw] at he hpx
    obtain ⟨rfl, hr2, hg2⟩ := RPost.ok hpx
    clear hpx hw
    have hres := blk_grown A3 hg2 (fun e => by have := Option.some.inj e; omega)
    have d0 := (blk_cell hres 0).trans rfl
    have d1 := (blk_cell hres 1).trans rfl
    have d2 := (blk_cell hres 2).trans rfl
    have d3 := (blk_cell hres 3).trans rfl
    have g0 := blk_free hres 0
    have g1 := blk_free hres 1
    have g2 := blk_free hres 2
    have g3 := blk_free hres 3
    have R := Lib.hid he
    clear he
    go_wp2_with fail
    obtain ⟨q1, q2, q3, q4⟩ := val_fin (A2.trans hg2) rfl hres hr2 hbB (RepV.leaf (fun _ => False) w2 0 ⟨#[]⟩) (fun k h => h.elim)
    refine bodyPost_ret (results_val rfl _ _ _ rfl q1) rfl ?_
    exact VPost.mkOk (by rw [← R.out]; first | done | rfl) rfl q2 q3 q4
  rw [if_neg h110] at he
  have k110 := eq_f (show ((Js.hd s.data.toList i : Nat) : Int) ≠ 110 by omega)
  by_cases h116 : Js.hd s.data.toList i = 116
  · rw [if_pos h116] at he
    have k116 := eq_t (show ((Js.hd s.data.toList i : Nat) : Int) = 116 by omega)
    clear h116
    have R := Lib.hid he
    clear he
    go_wp2_with fail
    refine (word_calls b s ⟨#[116, 114, 117, 101]⟩ i w1 (by omega) (by decide) hi A1 (by simp)).mono ?_
    intro e w2 hpx
    have hpx : RPost b s w1 (noVal (Js.word s.data.toList [116, 114, 117, 101] i)) e w2 := hpx
    have he := R.out
    clear R
    unfold Js.wordV at he
    rcases hw : Js.word s.data.toList [116, 114, 117, 101] i with ⟨p1, q1⟩ | j
    · rw [hw] at he hpx
      obtain ⟨rfl, hg2⟩ := RPost.error hpx
      exact end_panic rfl (VPost.mkErr he.symm rfl (A2.trans hg2))
    rw [hw] at he hpx
    obtain ⟨rfl, hr2, hg2⟩ := RPost.ok hpx
    clear hpx hw
    have hres := blk_grown A3 hg2 (fun e => by have := Option.some.inj e; omega)
    have d0 := (blk_cell hres 0).trans rfl
    have d1 := (blk_cell hres 1).trans rfl
    have d2 := (blk_cell hres 2).trans rfl
    have d3 := (blk_cell hres 3).trans rfl
    have g0 := blk_free hres 0
    have g1 := blk_free hres 1
    have g2 := blk_free hres 2
    have g3 := blk_free hres 3
    have R := Lib.hid he
    clear he
    go_wp2_with fail
    obtain ⟨q1, q2, q3, q4⟩ := val_fin (A2.trans hg2) rfl hres hr2 hbB (RepV.leaf (fun _ => False) w2 2 ⟨#[]⟩) (fun k h => h.elim)
    refine bodyPost_ret (results_val rfl _ _ _ rfl q1) rfl ?_
    exact VPost.mkOk (by rw [← R.out]; first | done | rfl) rfl q2 q3 q4
  rw [if_neg h116] at he
  have k116 := eq_f (show ((Js.hd s.data.toList i : Nat) : Int) ≠ 116 by omega)
  by_cases h102 : Js.hd s.data.toList i = 102
  · rw [if_pos h102] at he
    have k102 := eq_t (show ((Js.hd s.data.toList i : Nat) : Int) = 102 by omega)
    clear h102
    have R := Lib.hid he
    clear he
    go_wp2_with fail
    refine (word_calls b s ⟨#[102, 97, 108, 115, 101]⟩ i w1 (by omega) (by decide) hi A1 (by simp)).mono ?_
    intro e w2 hpx
    have hpx : RPost b s w1 (noVal (Js.word s.data.toList [102, 97, 108, 115, 101] i)) e w2 := hpx
    have he := R.out
    clear R
    unfold Js.wordV at he
    rcases hw : Js.word s.data.toList [102, 97, 108, 115, 101] i with ⟨p1, q1⟩ | j
    · rw [hw] at he hpx
      obtain ⟨rfl, hg2⟩ := RPost.error hpx
      exact end_panic rfl (VPost.mkErr he.symm rfl (A2.trans hg2))
    rw [hw] at he hpx
    obtain ⟨rfl, hr2, hg2⟩ := RPost.ok hpx
    clear hpx hw
    have hres := blk_grown A3 hg2 (fun e => by have := Option.some.inj e; omega)
    have d0 := (blk_cell hres 0).trans rfl
    have d1 := (blk_cell hres 1).trans rfl
    have d2 := (blk_cell hres 2).trans rfl
    have d3 := (blk_cell hres 3).trans rfl
    have g0 := blk_free hres 0
    have g1 := blk_free hres 1
    have g2 := blk_free hres 2
    have g3 := blk_free hres 3
    have R := Lib.hid he
    clear he
    go_wp2_with fail
    obtain ⟨q1, q2, q3, q4⟩ := val_fin (A2.trans hg2) rfl hres hr2 hbB (RepV.leaf (fun _ => False) w2 1 ⟨#[]⟩) (fun k h => h.elim)
    refine bodyPost_ret (results_val rfl _ _ _ rfl q1) rfl ?_
    exact VPost.mkOk (by rw [← R.out]; first | done | rfl) rfl q2 q3 q4
  rw [if_neg h102] at he
  have k102 := eq_f (show ((Js.hd s.data.toList i : Nat) : Int) ≠ 102 by omega)
  by_cases h34 : Js.hd s.data.toList i = 34
  · rw [if_pos h34] at he
    have hin := hd_pos (s := s) (i := i) (by omega)
    have k34 := eq_t (show ((Js.hd s.data.toList i : Nat) : Int) = 34 by omega)
    clear h34
    have R := Lib.hid he
    clear he
    go_wp2_with fail
    refine (text_calls b s i w1 hs hin A1 A4 hb).mono ?_
    intro e w2 hpx
    have he := R.out
    clear R
    rcases hst : Js.str s.data.toList i with ⟨p1, q1⟩ | ⟨t, j⟩
    · rw [hst] at he hpx
      obtain ⟨rfl, hg2⟩ := RPost.error hpx
      exact end_panic rfl (VPost.mkErr he.symm rfl (A2.trans hg2))
    rw [hst] at he hpx
    obtain ⟨rfl, hr2, hg2⟩ := RPost.ok hpx
    clear hpx hst
    have hres := blk_grown A3 hg2 (fun e => by have := Option.some.inj e; omega)
    have d0 := (blk_cell hres 0).trans rfl
    have d1 := (blk_cell hres 1).trans rfl
    have d2 := (blk_cell hres 2).trans rfl
    have d3 := (blk_cell hres 3).trans rfl
    have g0 := blk_free hres 0
    have g1 := blk_free hres 1
    have g2 := blk_free hres 2
    have g3 := blk_free hres 3
    have R := Lib.hid he
    clear he
    go_wp2_with fail
    obtain ⟨q1, q2, q3, q4⟩ := val_fin (A2.trans hg2) rfl hres hr2 hbB (RepV.leaf (fun _ => False) w2 4 ⟨t.toArray⟩) (fun k h => h.elim)
    refine bodyPost_ret (results_val rfl _ _ _ rfl q1) rfl ?_
    exact VPost.mkOk (by rw [← R.out]; first | done | rfl) rfl q2 q3 q4
  rw [if_neg h34] at he
  have k34 := eq_f (show ((Js.hd s.data.toList i : Nat) : Int) ≠ 34 by omega)
  by_cases h91 : Js.hd s.data.toList i = 91
  · rw [if_pos h91] at he
    have hin := hd_pos (s := s) (i := i) (by omega)
    have k91 := eq_t (show ((Js.hd s.data.toList i : Nat) : Int) = 91 by omega)
    clear h91
    rcases d with _ | d
    · have R := Lib.hid (show .error (i, 31) = r from he)
      have kz : (64 : Int) < z := by omega
      have c1 := A1.c1
      clear he
      go_wp2_with fail
      exact end_panic rfl (VPost.mkErr (by rw [← R.out]) rfl A2)
    have kz : ¬((64 : Int) < z) := by omega
    have C := list_calls d b s i w1 z (by omega) (by omega) hs hin A1 A4 hb (hV'.out d rfl)
    have C := Lib.hid C
    have R := Lib.hid he
    clear he
    go_wp2_with fail
    refine C.out.mono ?_
    intro e w2 hpx
    have he := R.out
    clear R C
    rw [len_data] at he
    rcases hl : Js.listL s.data.toList (Js.value s.data.toList d) (s.size + 1) (Js.blanks s.data.toList (i + 1)) [] with ⟨p1, q1⟩ | ⟨xs, j⟩
    · rw [hl] at he hpx
      obtain ⟨rfl, hg2⟩ := VPost.error hpx
      exact end_panic rfl (VPost.mkErr he.symm rfl (A2.trans hg2))
    rw [hl] at he hpx
    obtain ⟨⟨vv, rfl, hv⟩, hr2, hg2⟩ := VPost.ok hpx
    obtain ⟨la, lc, fa, fc, rfl⟩ := hv.cells
    clear hpx hl
    have hw1 := lt_of_block A3
    have hres := blk_grown A3 hg2 (fun e => by have := Option.some.inj e; omega)
    have d0 := (blk_cell hres 0).trans rfl
    have d1 := (blk_cell hres 1).trans rfl
    have d2 := (blk_cell hres 2).trans rfl
    have d3 := (blk_cell hres 3).trans rfl
    have g0 := blk_free hres 0
    have g1 := blk_free hres 1
    have g2 := blk_free hres 2
    have g3 := blk_free hres 3
    have R := Lib.hid he
    clear he
    go_wp2_with fail
    obtain ⟨q1, q2, q3, q4⟩ := val_fin (A2.trans hg2) rfl hres hr2 hbB (hv) (fun k h => by omega)
    refine bodyPost_ret (results_val rfl _ _ _ rfl q1) rfl ?_
    exact VPost.mkOk (by rw [← R.out]; first | done | rfl) rfl q2 q3 q4
  rw [if_neg h91] at he
  have k91 := eq_f (show ((Js.hd s.data.toList i : Nat) : Int) ≠ 91 by omega)
  by_cases h123 : Js.hd s.data.toList i = 123
  · rw [if_pos h123] at he
    have hin := hd_pos (s := s) (i := i) (by omega)
    have k123 := eq_t (show ((Js.hd s.data.toList i : Nat) : Int) = 123 by omega)
    clear h123
    rcases d with _ | d
    · have R := Lib.hid (show .error (i, 31) = r from he)
      have kz : (64 : Int) < z := by omega
      have c1 := A1.c1
      clear he
      go_wp2_with fail
      exact end_panic rfl (VPost.mkErr (by rw [← R.out]) rfl A2)
    have kz : ¬((64 : Int) < z) := by omega
    have C := object_calls d b s i w1 z (by omega) (by omega) hs hin A1 A4 hb (hV'.out d rfl)
    have C := Lib.hid C
    have R := Lib.hid he
    clear he
    go_wp2_with fail
    refine C.out.mono ?_
    intro e w2 hpx
    have he := R.out
    clear R C
    rw [len_data] at he
    rcases hl : Js.objL s.data.toList (Js.value s.data.toList d) (s.size + 1) true (Js.blanks s.data.toList (i + 1)) [] with ⟨p1, q1⟩ | ⟨xs, j⟩
    · rw [hl] at he hpx
      obtain ⟨rfl, hg2⟩ := VPost.error hpx
      exact end_panic rfl (VPost.mkErr he.symm rfl (A2.trans hg2))
    rw [hl] at he hpx
    obtain ⟨⟨vv, rfl, hv⟩, hr2, hg2⟩ := VPost.ok hpx
    obtain ⟨la, lc, fa, fc, rfl⟩ := hv.cells
    clear hpx hl
    have hw1 := lt_of_block A3
    have hres := blk_grown A3 hg2 (fun e => by have := Option.some.inj e; omega)
    have d0 := (blk_cell hres 0).trans rfl
    have d1 := (blk_cell hres 1).trans rfl
    have d2 := (blk_cell hres 2).trans rfl
    have d3 := (blk_cell hres 3).trans rfl
    have g0 := blk_free hres 0
    have g1 := blk_free hres 1
    have g2 := blk_free hres 2
    have g3 := blk_free hres 3
    have R := Lib.hid he
    clear he
    go_wp2_with fail
    obtain ⟨q1, q2, q3, q4⟩ := val_fin (A2.trans hg2) rfl hres hr2 hbB (hv) (fun k h => by omega)
    refine bodyPost_ret (results_val rfl _ _ _ rfl q1) rfl ?_
    exact VPost.mkOk (by rw [← R.out]; first | done | rfl) rfl q2 q3 q4
  rw [if_neg h123] at he
  have k123 := eq_f (show ((Js.hd s.data.toList i : Nat) : Int) ≠ 123 by omega)
  have c1 := A1.c1
  have R := Lib.hid he
  clear he h110 h116 h102 h34 h91 h123
  go_wp2_with fail
  refine (number_calls b s i w1 (by omega) hi A1).mono ?_
  intro e w2 hpx
  have he := R.out
  clear R
  rcases hn : Js.number s.data.toList i with ⟨p1, q1⟩ | j
  · rw [hn] at he hpx
    obtain ⟨rfl, hg2⟩ := RPost.error hpx
    exact end_panic rfl (VPost.mkErr he.symm rfl (A2.trans hg2))
  rw [hn] at he hpx
  obtain ⟨rfl, hr2, hg2⟩ := RPost.ok hpx
  have hj := number_ok hn hi
  simp only at he
  have hx : (s.extract i j).data.toList = (s.data.toList.drop i).take (j - i) := extract_list s i j (Nat.le_of_lt hj.1)
  have hx2 : (⟨((s.data.toList.drop i).take (j - i)).toArray⟩ : ByteArray) = s.extract i j := by
    rw [← hx]
  rw [hx2] at he
  clear hpx hn hx hx2 c1
  have c0 := hr2.c0
  have c1 := hr2.c1
  have i0 : (0 : Int) ≤ (i : Int) := by omega
  have i1 : (i : Int) ≤ (j : Int) := by omega
  have i2 : (j : Int) ≤ (s.size : Int) := by omega
  have hres := blk_grown A3 hg2 (fun e => by have := Option.some.inj e; omega)
  have d0 := (blk_cell hres 0).trans rfl
  have d1 := (blk_cell hres 1).trans rfl
  have d2 := (blk_cell hres 2).trans rfl
  have d3 := (blk_cell hres 3).trans rfl
  have g0 := blk_free hres 0
  have g1 := blk_free hres 1
  have g2 := blk_free hres 2
  have g3 := blk_free hres 3
  have R := Lib.hid he
  clear he
  go_wp2_with fail
  go_region
  go_wp2_with fail
  obtain ⟨q1, q2, q3, q4⟩ := val_fin (A2.trans hg2) rfl hres hr2 hbB (RepV.leaf (fun _ => False) w2 3 (s.extract i j)) (fun k h => h.elim)
  refine bodyPost_ret (results_val rfl _ _ _ rfl q1) rfl ?_
  refine VPost.mkOk (by rw [← R.out]) rfl ?_ q3 (gb_drew q4)
  refine RepV.move ?_ ?_ _ _ q2
  · exact fun k hk _ => hk
  · exact fun k _ _ => rfl

theorem value_calls (s : ByteArray) (hs : s.size ≤ 262144) : ∀ d, d ≤ 64 → ValAt s d
  | 0, h => value_step 0 s h hs (fun d' e => by cases e)
  | d + 1, h => value_step (d + 1) s h hs (fun d' e => by
    obtain rfl : d = d' := by omega
    exact value_calls s hs d (by omega))
end Go.Proofs.YtgnobnbbjekgnaaDoor
