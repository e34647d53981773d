import Derived.Test.YtgnobnbbjekgnaaDoorAwl
import Derived.Test.YtgnobnbbjekgnaaDoorDeep
import Derived.Laws.Concat
/- JsonDeep, the walk. -/
namespace Go.Proofs.YtgnobnbbjekgnaaDoor
open Go.RowKit
set_option linter.unusedVariables false

/-- Which brackets are opened first. -/
def chs (bs : List Bool) (m : Nat) : List Bool := (List.range m).map fun i => bs.getD i false
theorem chs_succ (bs : List Bool) (m : Nat) : chs bs (m + 1) = chs bs m ++ [bs.getD m false] := by simp [chs, List.range_succ]
theorem chs_len (bs : List Bool) (m : Nat) : (chs bs m).length = m := by simp [chs]
theorem chs_take (bs : List Bool) {m k : Nat} (h : k ≤ m) : (chs bs m).take k = chs bs k := by
  unfold chs
  rw [← List.map_take, List.take_range, Nat.min_eq_left h]
theorem data_append (a b : ByteArray) : (a ++ b).data.toList = a.data.toList ++ b.data.toList := by rw [ByteArray.data_append]; simp
theorem opn_mono (bs : List Bool) {k m : Nat} (h : k ≤ m) : (Js.opn (chs bs k)).length ≤ (Js.opn (chs bs m)).length := by
  obtain ⟨d, rfl⟩ : ∃ d, m = k + d := ⟨m - k, by omega⟩
  clear h
  induction d with
  | zero => exact Nat.le_refl _
  | succ d ih =>
    rw [← Nat.add_assoc, chs_succ, Js.opn_append, List.length_append]
    omega
/-- How deep the first and the last stand. -/
def deepPl (bs : List Bool) (k : Nat) : Int := if k = 0 then 0 else ((Js.opn (chs bs (k - 1))).length : Int)
def deepFs (bs : List Bool) (k : Nat) : Int := if k ≤ 64 then -1 else ((Js.opn (chs bs 64)).length : Int)
theorem deepPl_succ (bs : List Bool) (k : Nat) : deepPl bs (k + 1) = ((Js.opn (chs bs k)).length : Int) := by unfold deepPl; rw [if_neg (by omega)]; rfl
theorem deepFs_at (bs : List Bool) : deepFs bs 65 = ((Js.opn (chs bs 64)).length : Int) := rfl
theorem deepFs_ne (bs : List Bool) {k : Nat} (h : k ≠ 64) : deepFs bs (k + 1) = deepFs bs k := by
  unfold deepFs
  by_cases h1 : k ≤ 64
  · rw [if_pos (by omega), if_pos h1]
  · rw [if_neg (by omega), if_neg h1]
theorem size_len (a : ByteArray) {l : List UInt8} (h : a.data.toList = l) : a.size = l.length := by rw [← h]; exact (len_data a).symm

theorem deep_more {bs : List Bool} {k : Nat} {A B : ByteArray} (hA : A.data.toList = Js.opn (chs bs k)) (hB : B.data.toList = Js.shut (chs bs k)) :
    (bs.getD k false = true → (A ++ ⟨#[123, 34, 97, 34, 58]⟩).data.toList = Js.opn (chs bs (k + 1)) ∧ ((⟨#[125]⟩ : ByteArray) ++ B).data.toList = Js.shut (chs bs (k + 1))) ∧
    (bs.getD k false = false → (A ++ ⟨#[91]⟩).data.toList = Js.opn (chs bs (k + 1)) ∧ ((⟨#[93]⟩ : ByteArray) ++ B).data.toList = Js.shut (chs bs (k + 1))) := by
  constructor
  all_goals
    intro h
    rw [data_append, data_append, hA, hB, chs_succ, Js.opn_append, Js.shut_append, h]
    exact ⟨rfl, rfl⟩
theorem i64_eq {a b : Int} (h : a = b) : Value.int .i64 a = Value.int .i64 b := by rw [h]

/-- The second loop's state: the box holds what is left within. -/
def DeepAt (w0 : World) (H : Nat) (d : List Bool) (wr : World) : Prop := ∃ la lc fa fc, wr.heap[H]? = some (.cells #[.int .u8 (Js.nest d).kind, .string (Js.nest d).text, .slice la (Js.nest d).list.length lc, .slice fa (Js.nest d).fields.length fc] 25 (0, 0)) ∧
  SeeV (fun k => k < H) True wr (Js.nest d) (.agg #[.int .u8 (Js.nest d).kind, .string (Js.nest d).text, .slice la (Js.nest d).list.length lc, .slice fa (Js.nest d).fields.length fc]) ∧ Below w0.heap.size w0 wr ∧ w0.heap.size ≤ H

set_option maxRecDepth 100000 in
set_option maxHeartbeats 4000000 in
theorem deep_calls (a : Option Addr) (cap : Nat) (bs : List Bool) (z : Int) (w : World) (hz : -9223372036854775808 ≤ z ∧ z ≤ 9223372036854775807) (hn : bs.length ≤ 9223372036854775000) (hrow : SeeRow (fun _ => True) False w a (bs.map Value.bool)) (hE : Env w) :
    Calls Tryd.prog 6 #[.slice a bs.length cap, .int .i64 z] w fun e w' => e = .returned (.bool true) ∧ Below w.heap.size w w' := by
  obtain ⟨hz1, hz2⟩ := hz
  go_enter Tryd.func6, Tryd.ntmps6
  go_wp2_with fail
  refine (awake_calls _ hE).mono ?_
  rintro e w1 ⟨rfl, hb1⟩
  have E1 := hE.below hb1
  go_upto_block 19 with (fail)
  have hM : 0 ≤ min (max z 0) 200 ∧ min (max z 0) 200 ≤ 200 := by omega
  generalize min (max z 0) 200 = M at *
  obtain ⟨m, rfl⟩ : ∃ m : Nat, M = m := ⟨M.toNat, by omega⟩
  have hm : m ≤ 200 := by omega
  have HB1 := Lib.hid hb1
  clear hM hb1 hE hz1 hz2
  go_loop [5, 6, 7, 8, 9] (fun s5 s6 s7 s8 s9 => ∃ (k : Nat) (A B : ByteArray), k ≤ m ∧ s9 = .int .i64 (k : Int) ∧ s5 = .string A ∧ s6 = .string B ∧ A.data.toList = Js.opn (chs bs k) ∧ B.data.toList = Js.shut (chs bs k) ∧ s7 = .int .i64 (deepPl bs k) ∧ s8 = .int .i64 (deepFs bs k)) (fun _ _ _ _ i => m - (intOf i).toNat)
  case atStart => exact ⟨0, ⟨#[]⟩, ⟨#[]⟩, Nat.zero_le _, rfl, rfl, rfl, rfl, rfl, rfl, rfl⟩
  case round =>
    obtain ⟨k, A, B, hk, rfl, rfl, rfl, hA, hB, rfl, rfl⟩ := hrel
    rcases Nat.lt_or_ge k m with hlt | hge
    · have k1 : (k : Int) < (m : Int) := by omega
      have hLo := Js.deep_len (chs bs k)
      rw [chs_len] at hLo
      have hsA := size_len A hA
      have hsB := size_len B hB
      have q1 : ∀ w : World, (Op.stringOp .add A ⟨#[123, 34, 97, 34, 58]⟩).run Tryd.prog w = .ok (.string (A ++ ⟨#[123, 34, 97, 34, 58]⟩)) w := fun w => run_string_add_sum w _ _ (by rw [hsA]; show _ + 5 ≤ _; omega)
      have q2 : ∀ w : World, (Op.stringOp .add A ⟨#[91]⟩).run Tryd.prog w = .ok (.string (A ++ ⟨#[91]⟩)) w := fun w => run_string_add_sum w _ _ (by rw [hsA]; show _ + 1 ≤ _; omega)
      have q3 : ∀ w : World, (Op.stringOp .add ⟨#[125]⟩ B).run Tryd.prog w = .ok (.string (⟨#[125]⟩ ++ B)) w := fun w => run_string_add_sum w _ _ (by rw [hsB]; show 1 + _ ≤ _; omega)
      have q4 : ∀ w : World, (Op.stringOp .add ⟨#[93]⟩ B).run Tryd.prog w = .ok (.string (⟨#[93]⟩ ++ B)) w := fun w => run_string_add_sum w _ _ (by rw [hsB]; show 1 + _ ≤ _; omega)
      have HA := Lib.hid hA
      have HB := Lib.hid hB
      have HS := Lib.hid hsA
      clear hA hB hsA hsB hLo
      -- the choice
      obtain ⟨c, hc⟩ : ∃ c, bs.getD k false = c := ⟨_, rfl⟩
      have hcell : k < bs.length → ∃ g off, a = some ⟨g, off, none⟩ ∧ w1.cell? ⟨g, off + k, none⟩ = some (.bool c) := fun hl => by
        obtain ⟨g, off, rfl, _, hg, _, hcel⟩ := hrow.addr (by rw [List.length_map]; omega)
        refine ⟨g, off, rfl, ?_⟩
        rw [HB1.out.cell (p := ⟨g, off + k, none⟩) hg]
        refine hcel k _ ?_
        rw [List.getElem?_map, List.getElem?_eq_getElem hl, ← hc, List.getD_eq_getElem?_getD, List.getElem?_eq_getElem hl]
        rfl
      have hout : bs.length ≤ k → c = false := fun hl => by
        rw [← hc, List.getD_eq_getElem?_getD, List.getElem?_eq_none hl]; rfl
      have HC := Lib.hid hc
      clear hc
      have H64' := Lib.hid (Decidable.em (k = 64))
      rcases Nat.lt_or_ge k bs.length with hl | hl
      · obtain ⟨g, off, rfl, hcl⟩ := hcell hl
        have k2 : (k : Int) < (bs.length : Int) := by omega
        have k3 : (0 : Int) ≤ (k : Int) := by omega
        clear hl hcell hout
        rcases H64'.out with h64 | h64
        · have k4 := eq_t (show (k : Int) = 64 by omega)
          have H64 := Lib.hid h64
          clear h64 H64'
          rcases c with _ | _
          · go_wp2_with fail
            go_round
            case rel => exact ⟨k + 1, _, _, by omega, by go_num, rfl, rfl, ((deep_more HA.out HB.out).2 HC.out).1, ((deep_more HA.out HB.out).2 HC.out).2, i64_eq (by rw [deepPl_succ, HS.out]), i64_eq (by rw [show k + 1 = 65 by have := H64.out; omega, deepFs_at, HS.out]; have e := H64.out; subst e; rfl)⟩
            case measure => simp [intOf]; omega
          · go_wp2_with fail
            go_round
            case rel => exact ⟨k + 1, _, _, by omega, by go_num, rfl, rfl, ((deep_more HA.out HB.out).1 HC.out).1, ((deep_more HA.out HB.out).1 HC.out).2, i64_eq (by rw [deepPl_succ, HS.out]), i64_eq (by rw [show k + 1 = 65 by have := H64.out; omega, deepFs_at, HS.out]; have e := H64.out; subst e; rfl)⟩
            case measure => simp [intOf]; omega
        · have k4 := eq_f (show (k : Int) ≠ 64 by omega)
          have H64 := Lib.hid h64
          clear h64 H64'
          rcases c with _ | _
          · go_wp2_with fail
            go_round
            case rel => exact ⟨k + 1, _, _, by omega, by go_num, rfl, rfl, ((deep_more HA.out HB.out).2 HC.out).1, ((deep_more HA.out HB.out).2 HC.out).2, i64_eq (by rw [deepPl_succ, HS.out]), i64_eq (deepFs_ne bs H64.out).symm⟩
            case measure => simp [intOf]; omega
          · go_wp2_with fail
            go_round
            case rel => exact ⟨k + 1, _, _, by omega, by go_num, rfl, rfl, ((deep_more HA.out HB.out).1 HC.out).1, ((deep_more HA.out HB.out).1 HC.out).2, i64_eq (by rw [deepPl_succ, HS.out]), i64_eq (deepFs_ne bs H64.out).symm⟩
            case measure => simp [intOf]; omega
      · obtain rfl := hout hl
        have k2 : ¬((k : Int) < (bs.length : Int)) := by omega
        clear hl hcell hout
        rcases H64'.out with h64 | h64
        · have k4 := eq_t (show (k : Int) = 64 by omega)
          have H64 := Lib.hid h64
          clear h64 H64'
          go_wp2_with fail
          go_round
          case rel => exact ⟨k + 1, _, _, by omega, by go_num, rfl, rfl, ((deep_more HA.out HB.out).2 HC.out).1, ((deep_more HA.out HB.out).2 HC.out).2, i64_eq (by rw [deepPl_succ, HS.out]), i64_eq (by rw [show k + 1 = 65 by have := H64.out; omega, deepFs_at, HS.out]; have e := H64.out; subst e; rfl)⟩
          case measure => simp [intOf]; omega
        · have k4 := eq_f (show (k : Int) ≠ 64 by omega)
          have H64 := Lib.hid h64
          clear h64 H64'
          go_wp2_with fail
          go_round
          case rel => exact ⟨k + 1, _, _, by omega, by go_num, rfl, rfl, ((deep_more HA.out HB.out).2 HC.out).1, ((deep_more HA.out HB.out).2 HC.out).2, i64_eq (by rw [deepPl_succ, HS.out]), i64_eq (deepFs_ne bs H64.out).symm⟩
          case measure => simp [intOf]; omega
    · have k1 : ¬((k : Int) < (m : Int)) := by omega
      obtain rfl : k = m := by omega
      have hT : ((A ++ ⟨#[55]⟩) ++ B).data.toList = Js.deepText (chs bs k) := by
        rw [data_append, data_append, hA, hB]
        simp [Js.deepText]
      have hP := Js.deep_parse (chs bs k) (by rw [chs_len]; exact hm)
      rw [chs_len] at hP
      have hLo := Js.deep_len (chs bs k)
      rw [chs_len] at hLo
      have hsA := size_len A hA
      have hsB := size_len B hB
      have hs0 : ((A ++ ⟨#[55]⟩) ++ B).size ≤ 9223372036854775000 := by
        rw [ByteArray.size_append, ByteArray.size_append, hsA, hsB]
        show _ + 1 + _ ≤ _
        omega
      have q1 : ∀ w : World, (Op.stringOp .add A ⟨#[55]⟩).run Tryd.prog w = .ok (.string (A ++ ⟨#[55]⟩)) w := fun w => run_string_add_sum w _ _ (by rw [hsA]; show _ + 1 ≤ _; omega)
      have q2 : ∀ w : World, (Op.stringOp .add (A ++ ⟨#[55]⟩) B).run Tryd.prog w = .ok (.string ((A ++ ⟨#[55]⟩) ++ B)) w := fun w => run_string_add_sum w _ _ (by rw [ByteArray.size_append, hsA, hsB]; show _ + 1 + _ ≤ _; omega)
      have PC := parse_calls ((A ++ ⟨#[55]⟩) ++ B) w1 hs0 E1
      rw [hT, hP] at PC
      have B1 := HB1.out
      clear hA hB hT hP hLo hsA hsB hs0 k1 HB1
      by_cases h64 : k ≤ 64
      · rw [if_pos h64] at PC
        have PC := Lib.hid PC
        have k5 : ¬((64 : Int) < (k : Int)) := by omega
        clear h64 hk hge
        go_wp2_with fail
        refine PC.out.mono ?_
        rintro e w2 ⟨⟨v, rfl, hv⟩, hb2⟩
        obtain ⟨la, lc, fa, fc, rfl⟩ := hv.cells
        have B2 := B1.trans (hb2.mono B1.size)
        have D2 : DeepAt w w2.heap.size (chs bs k) (w2.alloc (.cells #[.int .u8 (Js.nest (chs bs k)).kind, .string (Js.nest (chs bs k)).text, .slice la (Js.nest (chs bs k)).list.length lc, .slice fa (Js.nest (chs bs k)).fields.length fc] 25)) :=
          ⟨la, lc, fa, fc, blk_new _ _, (SeeV.move id (fun q _ hq => hq) (Nat.le_refl _) (fun _ _ _ => rfl) _ _ (RepV.see _ _ hv)).alloc _, B2.alloc B2.size _, B2.size⟩
        clear hv hb2 B1 B2 PC
        go_wp2_with fail
        generalize w2.alloc (.cells #[.int .u8 (Js.nest (chs bs k)).kind, .string (Js.nest (chs bs k)).text, .slice la (Js.nest (chs bs k)).list.length lc, .slice fa (Js.nest (chs bs k)).fields.length fc] 25) = w3 at *
        generalize w2.heap.size = H2 at *
        go_loopg [13] (k + 1) (fun q s13 wr => ∃ j : Nat, j + q = k + 1 ∧ j ≤ k ∧ s13 = .int .i64 (j : Int) ∧ DeepAt w H2 ((chs bs k).drop j) wr)
        case atStart => exact ⟨0, by omega, by omega, rfl, D2⟩
        case round =>
          obtain ⟨j, hjq, hjk, rfl, D⟩ := hrel
          clear D2
          rcases Nat.lt_or_ge j k with hlt | hge
          · obtain ⟨c, hc⟩ : ∃ c, (chs bs k)[j]? = some c := ⟨_, List.getElem?_eq_getElem (by rw [chs_len]; exact hlt)⟩
            have hdrop : (chs bs k).drop j = c :: (chs bs k).drop (j + 1) := by
              have hl : j < (chs bs k).length := by rw [chs_len]; exact hlt
              rw [List.drop_eq_getElem_cons hl]
              congr 1
              rw [List.getElem?_eq_getElem hl] at hc
              exact Option.some.inj hc
            have k1 : (j : Int) < (k : Int) := by omega
            obtain ⟨d, hd⟩ : ∃ d, (chs bs k).drop (j + 1) = d := ⟨_, rfl⟩
            rw [hdrop, hd] at D
            have HD := Lib.hid hd
            clear hdrop hc hlt hd
            obtain ⟨ma, mc, na, nc, hbx, hse, hbl, hwh⟩ := D
            rcases c with _ | _
            · have hbx : wr.heap[H2]? = some (.cells #[.int .u8 5, .string ⟨#[]⟩, .slice ma 1 mc, .slice na 0 nc] 25 (0, 0)) := hbx
              have hse : SeeV (fun q => q < H2) True wr (.mk 5 ⟨#[]⟩ [Js.nest d] []) (.agg #[.int .u8 5, .string ⟨#[]⟩, .slice ma 1 mc, .slice na 0 nc]) := hse
              simp only [SeeV] at hse
              obtain ⟨la', lc', fa', fc', xs, ys, he, hr1, hl1, hr2, hf2⟩ := hse
              cases he
              obtain ⟨vv, hvv, hcc⟩ := SeeL.at hl1 0 (Js.nest d) rfl
              obtain ⟨pa, pc, qa, qc, rfl⟩ := hvv.cells
              have hxl := SeeL.length hl1
              obtain ⟨g, off, rfl, hg, hgw, _, hcel⟩ := hr1.addr (by rw [hxl]; simp)
              have x0 := hcel 0 _ ((hcc 0 (by omega)).trans rfl)
              have x1 := hcel 1 _ ((hcc 1 (by omega)).trans rfl)
              have x2 := hcel 2 _ ((hcc 2 (by omega)).trans rfl)
              have x3 := hcel 3 _ ((hcc 3 (by omega)).trans rfl)
              rw [Nat.add_zero] at x0
              clear hcc hcel hxl hl1 hr1 hf2 hr2
              have d0 := (blk_cell hbx 0).trans rfl
              have d1 := (blk_cell hbx 1).trans rfl
              have d2 := (blk_cell hbx 2).trans rfl
              have d3 := (blk_cell hbx 3).trans rfl
              have g0 := blk_free hbx 0
              have g1 := blk_free hbx 1
              have g2 := blk_free hbx 2
              have g3 := blk_free hbx 3
              go_wp2_with fail
              have hF := blk_set (blk_set (blk_set (blk_set hbx 0 (.int .u8 (Js.nest d).kind)) 1 (.string (Js.nest d).text)) 2 (.slice pa (Js.nest d).list.length pc)) 3 (.slice qa (Js.nest d).fields.length qc)
              go_roundg (k + 1 - (j + 1))
              case measure => omega
              case rel =>
                refine ⟨j + 1, by omega, by omega, by simp, ?_⟩
                rw [HD.out]
                refine ⟨pa, pc, qa, qc, hF.trans rfl, SeeV.move (w := wr) id (fun q hq _ => hq) (by simp [World.setCell]) (fun q hq _ => ?_) _ _ hvv, (((hbl.setCell (p := ⟨H2, 0, none⟩) hwh _).setCell (p := ⟨H2, 1, none⟩) hwh _).setCell (p := ⟨H2, 2, none⟩) hwh _).setCell (p := ⟨H2, 3, none⟩) hwh _, hwh⟩
                have h : q ≠ H2 := by omega
                exact (heap_set_ne h).trans ((heap_set_ne h).trans ((heap_set_ne h).trans (heap_set_ne h)))
            · have hbx : wr.heap[H2]? = some (.cells #[.int .u8 6, .string ⟨#[]⟩, .slice ma 0 mc, .slice na 1 nc] 25 (0, 0)) := hbx
              have hse : SeeV (fun q => q < H2) True wr (.mk 6 ⟨#[]⟩ [] [(⟨#[97]⟩, Js.nest d)]) (.agg #[.int .u8 6, .string ⟨#[]⟩, .slice ma 0 mc, .slice na 1 nc]) := hse
              simp only [SeeV] at hse
              obtain ⟨la', lc', fa', fc', xs, ys, he, hr1, hl1, hr2, hf2⟩ := hse
              cases he
              obtain ⟨vv, hvv, hcn, hcc⟩ := SeeF.at hf2 0 _ (Js.nest d) rfl
              obtain ⟨pa, pc, qa, qc, rfl⟩ := hvv.cells
              have hxl := SeeF.length hf2
              obtain ⟨g, off, rfl, hg, hgw, _, hcel⟩ := hr2.addr (by rw [hxl]; simp)
              have x0 := hcel 1 _ ((hcc 0 (by omega)).trans rfl)
              have x1 := hcel 2 _ ((hcc 1 (by omega)).trans rfl)
              have x2 := hcel 3 _ ((hcc 2 (by omega)).trans rfl)
              have x3 := hcel 4 _ ((hcc 3 (by omega)).trans rfl)
              clear hcc hcn hcel hxl hl1 hr1 hf2 hr2
              have d0 := (blk_cell hbx 0).trans rfl
              have d1 := (blk_cell hbx 1).trans rfl
              have d2 := (blk_cell hbx 2).trans rfl
              have d3 := (blk_cell hbx 3).trans rfl
              have g0 := blk_free hbx 0
              have g1 := blk_free hbx 1
              have g2 := blk_free hbx 2
              have g3 := blk_free hbx 3
              go_wp2_with fail
              have hF := blk_set (blk_set (blk_set (blk_set hbx 0 (.int .u8 (Js.nest d).kind)) 1 (.string (Js.nest d).text)) 2 (.slice pa (Js.nest d).list.length pc)) 3 (.slice qa (Js.nest d).fields.length qc)
              go_roundg (k + 1 - (j + 1))
              case measure => omega
              case rel =>
                refine ⟨j + 1, by omega, by omega, by simp, ?_⟩
                rw [HD.out]
                refine ⟨pa, pc, qa, qc, hF.trans rfl, SeeV.move (w := wr) id (fun q hq _ => hq) (by simp [World.setCell]) (fun q hq _ => ?_) _ _ hvv, (((hbl.setCell (p := ⟨H2, 0, none⟩) hwh _).setCell (p := ⟨H2, 1, none⟩) hwh _).setCell (p := ⟨H2, 2, none⟩) hwh _).setCell (p := ⟨H2, 3, none⟩) hwh _, hwh⟩
                have h : q ≠ H2 := by omega
                exact (heap_set_ne h).trans ((heap_set_ne h).trans ((heap_set_ne h).trans (heap_set_ne h)))
          · have k1 : ¬((j : Int) < (k : Int)) := by omega
            rw [List.drop_of_length_le (by rw [chs_len]; exact hge)] at D
            obtain ⟨ma, mc, na, nc, hbx, hse, hbl, hwh⟩ := D
            have hbx : wr.heap[H2]? = some (.cells #[.int .u8 3, .string ⟨#[55]⟩, .slice ma 0 mc, .slice na 0 nc] 25 (0, 0)) := hbx
            have d0 := (blk_cell hbx 0).trans rfl
            have d1 := (blk_cell hbx 1).trans rfl
            clear hse hge hjq hjk
            go_wp2_with fail
            go_ret
            exact ⟨rfl, hbl⟩
      · rw [if_neg h64, chs_take bs (by omega)] at PC
        have hF : deepFs bs k = ((Js.opn (chs bs 64)).length : Int) := by unfold deepFs; rw [if_neg h64]
        have hFP : deepFs bs k ≤ deepPl bs k := by
          rw [hF]
          unfold deepPl
          rw [if_neg (by omega)]
          have := opn_mono bs (show 64 ≤ k - 1 by omega)
          omega
        unfold PPost at PC
        simp only at PC
        rw [← hF] at PC
        have PC := Lib.hid PC
        have k5 : (64 : Int) < (k : Int) := by omega
        clear h64 hk hge hF
        go_wp2_with fail
        refine PC.out.mono ?_
        rintro e w2 ⟨⟨v, rfl, hv⟩, hb2⟩
        obtain ⟨la, lc, fa, fc, rfl⟩ := hv.cells
        have B2 := B1.trans (hb2.mono B1.size)
        clear hv hb2
        go_wp2_with fail
        go_ret
        exact ⟨rfl, B2.alloc B2.size _⟩
end Go.Proofs.YtgnobnbbjekgnaaDoor
