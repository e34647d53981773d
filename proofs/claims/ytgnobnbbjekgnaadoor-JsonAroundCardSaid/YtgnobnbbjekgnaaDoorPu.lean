import Derived.Test.YtgnobnbbjekgnaaDoorRdu
import Derived.Laws.BitsAllLaws
/- strconv.ParseUint at base 16, 32 bits, of a short text. -/
namespace Go.Proofs.YtgnobnbbjekgnaaDoor
open Go.RowKit
set_option linter.unusedVariables false

/-- Hexadecimal digits' number; none: one is no digit. -/
def hexL : List UInt8 → Nat → Option Nat
  | [], n => some n
  | c :: r, n => match Js.hex c.toNat with
    | none => none
    | some d => hexL r (n * 16 + d)

/-- What the inner ParseUint comes to. -/
def puVal : Option Nat → Value
  | some n => .tuple #[.int .u64 (n : Int), .nilIface]
  | none => .tuple #[.int .u64 0, .iface 94 (.int .i64 2)]

def lo32 (c : Nat) : Nat := c ||| 32
theorem lo32_calls (c : Nat) (hc : c < 256) (w : World) :
    Calls Tryd.prog 60 #[.int .u8 (c : Int)] w fun e w' => e = .returned (.int .u8 ((lo32 c : Nat) : Int)) ∧ w = w' :=
  (Tryd.internal_strconv_lower (c : Int) w).mono fun _ _ ⟨he, hw⟩ => ⟨by rw [he]; exact ret_int' (u8_or_nat c 32 hc (by decide)), hw.symm⟩
def hexOk (c : Nat) : Bool := match Js.hex c with
  | some d => decide ((48 ≤ c ∧ c ≤ 57 ∧ d = c - 48) ∨ (57 < c ∧ 97 ≤ lo32 c ∧ lo32 c ≤ 102 ∧ d = lo32 c - 87))
  | none => decide ((c < 48 ∨ 57 < c) ∧ (lo32 c < 97 ∨ 122 < lo32 c ∨ (103 ≤ lo32 c ∧ lo32 c ≤ 122)))
theorem hexOk_all : ∀ c : Fin 256, hexOk c.val = true := by decide +kernel

set_option maxRecDepth 100000 in
set_option maxHeartbeats 2000000 in
theorem inner_calls (s : ByteArray) (w : World) (h0 : 0 < s.size) (h8 : s.size ≤ 4) :
    Calls Tryd.prog 58 #[.string s, .int .i64 16, .int .i64 32] w fun e w' => e = .returned (puVal (hexL s.data.toList 0)) ∧ Below w.heap.size w w' := by
  have hne : s.data.toList ≠ [] := by intro h; have := len_data s; rw [h] at this; simp at this; omega
  have hne1 : s.toList ≠ [] := by rw [ByteArray.toList_eq]; exact hne
  have hne2 : (s.toList == []) = false := by simpa using hne1
  have hne3 : s.toList.isEmpty = false := by simpa using hne1
  clear hne
  have kb := fun W => Lib.run_convert_string_bytes (P := Tryd.prog) W 9 57 5 s Tryd.underlying9 Tryd.underlying57 Tryd.underlying5
  obtain ⟨R, hR⟩ : ∃ R, hexL s.data.toList 0 = R := ⟨_, rfl⟩
  rw [hR]
  have HR := Lib.hid hR
  clear hR
  go_enter Tryd.func58, Tryd.ntmps58
  go_wp2_with fail
  clear kb hne1 hne2 hne3
  go_loopg [12, 13, 101] (s.size + 1) (fun q us n k wr => ∃ (j m : Nat) (x : Int), us = .bool false ∧ q = s.size + 1 - j ∧ j ≤ s.size ∧ k = .int .i64 (j : Int) ∧ n = .int .u64 x ∧ x = (m : Int) ∧ m < 16 ^ j ∧
    Below w.heap.size w wr ∧ (∀ j, j < s.size → wr.cell? ⟨w.heap.size, j, none⟩ = some (.int .u8 ((Js.hd s.data.toList j : Nat) : Int))) ∧ hexL (s.data.toList.drop j) m = R)
  case atStart => exact ⟨0, 0, 0, rfl, rfl, Nat.zero_le _, rfl, rfl, rfl, by decide, ⟨rfl, rfl, rfl, by rw [Lib.bytesWorld_size]; omega, fun k hk => Lib.bytesWorld_at_old w _ s k hk⟩, fun j hj => Lib.bytesWorld_cell w _ s j hj, HR.out⟩
  case round =>
    obtain ⟨j, m, x, rfl, hq, hj, rfl, rfl, hxm, hm, hb, hcell, he⟩ := hrel
    have HX := Lib.hid hxm
    have g0 : (0 : Int) ≤ j := by omega
    by_cases hlt : j < s.size
    · have g1 : (j : Int) < s.size := by omega
      have hm' : m < 4096 := by
        have : 16 ^ j ≤ 16 ^ 3 := Nat.pow_le_pow_right (by decide) (by omega)
        have : (16 : Nat) ^ 3 = 4096 := rfl
        omega
      have hmI : x < 4096 := by omega
      have hmI0 : 0 ≤ x := by omega
      clear hxm
      have hc := hcell j hlt
      have hl : j < s.data.toList.length := by rw [len_data]; exact hlt
      have hlt' := hd_lt s.data.toList j
      rw [List.drop_eq_getElem_cons hl, hexL, ← hd_get hl] at he
      have HC : hexOk (Js.hd s.data.toList j) = true := hexOk_all ⟨Js.hd s.data.toList j, hlt'⟩
      obtain ⟨c, hC⟩ : ∃ c, Js.hd s.data.toList j = c := ⟨_, rfl⟩
      rw [hC] at he HC hc hlt'
      have HH := Lib.hid hcell
      have hc0 : (0 : Int) ≤ c := by omega
      have hc256 : (c : Int) < 256 := by omega
      clear hC hcell
      rcases hx : Js.hex c with _ | d
      · have HC' : (c < 48 ∨ 57 < c) ∧ (lo32 c < 97 ∨ 122 < lo32 c ∨ (103 ≤ lo32 c ∧ lo32 c ≤ 122)) := by unfold hexOk at HC; rw [hx] at HC; exact of_decide_eq_true HC
        rw [hx] at he
        have HE := Lib.hid (show none = R from he)
        obtain ⟨h1, h2⟩ := HC'
        clear he hx hq hm HC
        have fin : ∀ wx, Below w.heap.size w wx → (Ending.returned (.tuple #[.int .u64 0, .iface 94 (.int .i64 2)]) = .returned (puVal R) ∧ Below w.heap.size w wx) := fun wx h => ⟨by rw [← HE.out]; rfl, h⟩
        have FIN := Lib.hid fin
        clear fin
        rcases h1 with h1 | h1
        · have k1 : (c : Int) < 48 := by omega
          have k0 := eq_f (show (c : Int) ≠ 95 by omega)
          clear h1
          rcases h2 with h2 | h2 | ⟨h2, h3⟩
          · have k2 : ((lo32 c : Nat) : Int) < 97 := by omega
            clear h2
            go_wp2_with (go_at_call 60; refine (lo32_calls c hlt' _).mono ?_; rintro e w' ⟨rfl, rfl⟩)
            go_ret2
            exact FIN.out _ hb
          · have k2 : (122 : Int) < ((lo32 c : Nat) : Int) := by omega
            clear h2
            go_wp2_with (go_at_call 60; refine (lo32_calls c hlt' _).mono ?_; rintro e w' ⟨rfl, rfl⟩)
            go_ret2
            exact FIN.out _ hb
          · have k2 : (103 : Int) ≤ ((lo32 c : Nat) : Int) := by omega
            have k3 : ((lo32 c : Nat) : Int) ≤ 122 := by omega
            clear h2 h3
            go_wp2_with (go_at_call 60; refine (lo32_calls c hlt' _).mono ?_; rintro e w' ⟨rfl, rfl⟩)
            go_ret2
            exact FIN.out _ hb
        · have k1 : (57 : Int) < c := by omega
          by_cases h95 : c = 95
          · have k0 := eq_t (show (c : Int) = 95 by omega)
            have k2 : (122 : Int) < ((lo32 c : Nat) : Int) := by subst h95; decide
            clear h1 h2 h95
            go_wp2_with (go_at_call 60; refine (lo32_calls c hlt' _).mono ?_; rintro e w' ⟨rfl, rfl⟩)
            go_ret2
            exact FIN.out _ hb
          have k0 := eq_f (show (c : Int) ≠ 95 by omega)
          clear h1 h95
          rcases h2 with h2 | h2 | ⟨h2, h3⟩
          · have k2 : ((lo32 c : Nat) : Int) < 97 := by omega
            clear h2
            go_wp2_with (go_at_call 60; refine (lo32_calls c hlt' _).mono ?_; rintro e w' ⟨rfl, rfl⟩)
            go_ret2
            exact FIN.out _ hb
          · have k2 : (122 : Int) < ((lo32 c : Nat) : Int) := by omega
            clear h2
            go_wp2_with (go_at_call 60; refine (lo32_calls c hlt' _).mono ?_; rintro e w' ⟨rfl, rfl⟩)
            go_ret2
            exact FIN.out _ hb
          · have k2 : (103 : Int) ≤ ((lo32 c : Nat) : Int) := by omega
            have k3 : ((lo32 c : Nat) : Int) ≤ 122 := by omega
            clear h2 h3
            go_wp2_with (go_at_call 60; refine (lo32_calls c hlt' _).mono ?_; rintro e w' ⟨rfl, rfl⟩)
            go_ret2
            exact FIN.out _ hb
      · have HC' : (48 ≤ c ∧ c ≤ 57 ∧ d = c - 48) ∨ (57 < c ∧ 97 ≤ lo32 c ∧ lo32 c ≤ 102 ∧ d = lo32 c - 87) := by unfold hexOk at HC; rw [hx] at HC; exact of_decide_eq_true HC
        rw [hx] at he
        simp only at he
        obtain ⟨hd16, -⟩ := hex_lt hx
        have hm2 : m * 16 + d < 16 ^ (j + 1) := by rw [Nat.pow_succ]; omega
        have HE := Lib.hid he
        have HQ := Lib.hid hq
        clear he hx hq hm HC
        rcases HC' with ⟨h1, h2, h3⟩ | ⟨h1, h2, h3, h4⟩
        · have k1 : (48 : Int) ≤ c := by omega
          have k2 : (c : Int) ≤ 57 := by omega
          have k0 := eq_f (show (c : Int) ≠ 95 by omega)
          have H3 := Lib.hid h3
          clear h1 h2 h3
          go_wp2_with fail
          have hq := HQ.out
          go_roundg (s.size + 1 - (j + 1))
          case measure => omega
          case rel =>
            exact ⟨j + 1, m * 16 + d, _, rfl, rfl, by omega, by go_num, rfl, (by have := H3.out; have := HX.out; omega), hm2, hb, HH.out, HE.out⟩
        · have k1 : (57 : Int) < c := by omega
          have k2 : (97 : Int) ≤ ((lo32 c : Nat) : Int) := by omega
          have k3 : ((lo32 c : Nat) : Int) ≤ 102 := by omega
          have k0 := eq_f (show (c : Int) ≠ 95 by
            intro h
            have h' : c = 95 := by omega
            subst h'
            exact absurd h3 (by decide))
          have H3 := Lib.hid h4
          clear h1 h2 h3 h4
          go_wp2_with (go_at_call 60; refine (lo32_calls c hlt' _).mono ?_; rintro e w' ⟨rfl, rfl⟩)
          have hq := HQ.out
          go_roundg (s.size + 1 - (j + 1))
          case measure => omega
          case rel =>
            exact ⟨j + 1, m * 16 + d, _, rfl, rfl, by omega, by go_num, rfl, (by have := H3.out; have := HX.out; omega), hm2, hb, HH.out, HE.out⟩
    · have hj' : j = s.size := by omega
      have g1 : (s.size : Int) ≤ j := by omega
      rw [List.drop_of_length_le (by rw [len_data]; omega)] at he
      have HE := Lib.hid (show some m = R from he)
      have HX := Lib.hid hxm
      clear he hq hm hj' hcell hxm
      go_wp2_with fail
      go_ret2
      exact ⟨by rw [← HE.out, HX.out]; rfl, hb⟩
end Go.Proofs.YtgnobnbbjekgnaaDoor
