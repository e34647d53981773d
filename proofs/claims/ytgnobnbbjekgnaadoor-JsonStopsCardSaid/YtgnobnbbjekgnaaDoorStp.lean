import Derived.Test.YtgnobnbbjekgnaaDoorAwl
import Derived.Test.YtgnobnbbjekgnaaDoorCuc
/- JsonStops, the walk. -/
namespace Go.Proofs.YtgnobnbbjekgnaaDoor
open Go.RowKit
set_option linter.unusedVariables false

theorem take_extract (s : ByteArray) (i : Nat) (h : i ≤ s.size) : (s.extract 0 i).data.toList = s.data.toList.take i := by
  rw [ByteArray.data_extract, Array.toList_extract]
  simp [List.extract]

set_option maxRecDepth 100000 in
set_option maxHeartbeats 4000000 in
theorem stops_calls (s : ByteArray) (w : World) (hs0 : s.size ≤ 9223372036854775000) (hE : Env w) :
    Calls Tryd.prog 4 #[.string s] w fun e w' => e = .returned (.bool true) ∧ Below w.heap.size w w' := by
  by_cases hlen : 20000 < s.size
  · have k1 : (20000 : Int) < (s.size : Int) := by omega
    clear hlen
    go_enter Tryd.func4, Tryd.ntmps4
    go_wp2_with fail
    refine (awake_calls _ hE).mono ?_
    rintro e w1 ⟨rfl, hb1⟩
    go_wp2_with fail
    go_ret
    exact ⟨rfl, hb1⟩
  have k1 : ¬((20000 : Int) < (s.size : Int)) := by omega
  have S := Js.stops_all s.data.toList (by rw [len_data]; omega)
  unfold Js.Stops at S
  have PC := fun wx (h : Env wx) => parse_calls s wx hs0 h
  have PD := fun (i : Nat) (hi : i ≤ s.size) wx (h : Env wx) => parse_calls (s.extract 0 i) wx (by rw [ByteArray.size_extract]; omega) h
  rcases hp : Js.parse s.data.toList with ⟨t, i, n⟩
  rw [hp] at S
  simp only [hp] at PC
  simp only at S
  rcases S with ⟨rfl, rfl⟩ | ⟨rfl, hi, hn, h2⟩
  · have PC := Lib.hid PC
    clear hp PD hlen
    go_enter Tryd.func4, Tryd.ntmps4
    go_wp2_with fail
    refine (awake_calls _ hE).mono ?_
    rintro e w1 ⟨rfl, hb1⟩
    have E1 := hE.below hb1
    go_wp2_with fail
    refine (PC.out _ E1).mono ?_
    rintro e w2 ⟨⟨v, rfl, hv⟩, hb2⟩
    obtain ⟨la, lc, fa, fc, rfl⟩ := hv.cells
    have B2 := hb1.trans (hb2.mono hb1.size)
    clear hv E1 hb1 hb2
    go_wp2_with fail
    go_ret
    exact ⟨rfl, B2.alloc B2.size _⟩
  rw [len_data] at hi
  have q0 : (0 : Int) ≤ (i : Int) := by omega
  have q1 : ¬((s.size : Int) < (i : Int)) := by omega
  have q2 : ¬((i : Int) < 0) := by omega
  have q3 : (i : Int) ≤ (s.size : Int) := by omega
  have PD := PD i hi
  rw [take_extract s i hi] at PD
  rcases hp2 : Js.parse (s.data.toList.take i) with ⟨t2, i2, n2⟩
  rw [hp2] at h2
  simp only [hp2] at PD
  simp only at h2
  have PC := Lib.hid PC
  have PD := Lib.hid PD
  have HI := Lib.hid hi
  clear hp hp2 hlen hi
  rcases h2 with ⟨rfl, rfl⟩ | ⟨rfl, rfl⟩
  · clear hn
    go_enter Tryd.func4, Tryd.ntmps4
    go_wp2_with fail
    refine (awake_calls _ hE).mono ?_
    rintro e w1 ⟨rfl, hb1⟩
    have E1 := hE.below hb1
    go_wp2_with fail
    refine (PC.out _ E1).mono ?_
    rintro e w2 ⟨⟨v, rfl, hv⟩, hb2⟩
    obtain ⟨la, lc, fa, fc, hvc⟩ := hv.cells
    have hvc : v = .agg #[.int .u8 0, .string ⟨#[]⟩, .slice la 0 lc, .slice fa 0 fc] := hvc
    subst hvc
    have E2 := E1.below hb2
    have B2 := hb1.trans (hb2.mono hb1.size)
    have B3 := B2.alloc B2.size (.cells #[.int .u8 0, .string ⟨#[]⟩, .slice la 0 lc, .slice fa 0 fc] 25)
    have E3 := E2.grown (World.grownBy_alloc w2 (.cells #[.int .u8 0, .string ⟨#[]⟩, .slice la 0 lc, .slice fa 0 fc] 25) none) (fun j e => by cases e)
    clear hv E1 hb1 hb2
    go_wp2_with fail
    refine (PD.out _ E3).mono ?_
    rintro e w4 ⟨⟨v2, rfl, hv2⟩, hb4⟩
    obtain ⟨ma, mc, na, nc, rfl⟩ := hv2.cells
    have B4 := B3.trans (hb4.mono B3.size)
    clear hv2 B3 E3 hb4 B2 E2
    go_wp2_with fail
    go_ret
    exact ⟨rfl, B4.alloc B4.size _⟩
  rcases hn with rfl | rfl
  all_goals
    go_enter Tryd.func4, Tryd.ntmps4
    go_wp2_with fail
    refine (awake_calls _ hE).mono ?_
    rintro e w1 ⟨rfl, hb1⟩
    have E1 := hE.below hb1
    go_wp2_with fail
    refine (PC.out _ E1).mono ?_
    rintro e w2 ⟨⟨v, rfl, hv⟩, hb2⟩
    obtain ⟨la, lc, fa, fc, hvc⟩ := hv.cells
    have hvc : v = .agg #[.int .u8 0, .string ⟨#[]⟩, .slice la 0 lc, .slice fa 0 fc] := hvc
    subst hvc
    have E2 := E1.below hb2
    have B2 := hb1.trans (hb2.mono hb1.size)
    have B3 := B2.alloc B2.size (.cells #[.int .u8 0, .string ⟨#[]⟩, .slice la 0 lc, .slice fa 0 fc] 25)
    have E3 := E2.grown (World.grownBy_alloc w2 (.cells #[.int .u8 0, .string ⟨#[]⟩, .slice la 0 lc, .slice fa 0 fc] 25) none) (fun j e => by cases e)
    clear hv E1 hb1 hb2
    go_wp2_with fail
    refine (PD.out _ E3).mono ?_
    rintro e w4 ⟨⟨v2, rfl, hv2⟩, hb4⟩
    obtain ⟨ma, mc, na, nc, rfl⟩ := hv2.cells
    have B4 := B3.trans (hb4.mono B3.size)
    clear hv2 B3 E3 hb4 B2 E2
    go_wp2_with fail
    go_ret
    exact ⟨rfl, B4.alloc B4.size _⟩
end Go.Proofs.YtgnobnbbjekgnaaDoor
