import Derived.Test.YtgnobnbbjekgnaaDoorRdb
import Derived.Laws.BitsLemmas
/- The JSON reader: units. -/
namespace Go.Proofs.YtgnobnbbjekgnaaDoor
open Go.RowKit
set_option linter.unusedVariables false

def lw (c : Nat) : Nat := if 65 ≤ c ∧ c ≤ 70 then c + 32 else c
def hexI (c : Nat) : Int := match Js.hex c with | some d => (d : Int) | none => -1
theorem hexI_ix : ∀ c : Fin 256, ixOf [48, 49, 50, 51, 52, 53, 54, 55, 56, 57, 97, 98, 99, 100, 101, 102] (lw c.val).toUInt8 = hexI c.val := by decide +kernel
theorem hex_lt {c d : Nat} (h : Js.hex c = some d) : d < 16 ∧ 48 ≤ c := by
  unfold Js.hex at h
  split at h
  · cases h; omega
  · split at h
    · cases h; omega
    · split at h
      · cases h; omega
      · cases h

theorem lower_calls (n : Nat) (hn : n < 256) (w : World) :
    Calls Tryd.prog 55 #[.int .u8 (n : Int)] w fun e w' => e = .returned (.int .u8 ((lw n : Nat) : Int)) ∧ w = w' := by
  by_cases h1 : 65 ≤ n
  · by_cases h2 : n ≤ 70
    · have g1 : (65 : Int) ≤ n := by omega
      have g2 : (n : Int) ≤ 70 := by omega
      have L := Lib.hid (show lw n = n + 32 from if_pos ⟨h1, h2⟩)
      clear h1 h2
      go_enter Tryd.func55, Tryd.ntmps55
      go_wp2
      go_ret
      exact ⟨ret_int' (by rw [L.out]; show _ = ((n + 32 : Nat) : Int); omega), rfl⟩
    · have g1 : (65 : Int) ≤ n := by omega
      have g2 : (70 : Int) < n := by omega
      have L := Lib.hid (show lw n = n from if_neg (by omega))
      clear h1 h2
      go_enter Tryd.func55, Tryd.ntmps55
      go_wp2
      go_ret
      exact ⟨ret_int' (by rw [L.out]), rfl⟩
  · have g1 : (n : Int) < 65 := by omega
    have L := Lib.hid (show lw n = n from if_neg (by omega))
    clear h1
    go_enter Tryd.func55, Tryd.ntmps55
    go_wp2
    go_ret
    exact ⟨ret_int' (by rw [L.out]), rfl⟩

theorem hexix_calls (n : Nat) (hn : n < 256) (w : World) :
    Calls Tryd.prog 19 #[.string ⟨#[48, 49, 50, 51, 52, 53, 54, 55, 56, 57, 97, 98, 99, 100, 101, 102]⟩, .int .u8 ((lw n : Nat) : Int)] w fun e w' => e = .returned (.int .i64 (hexI n)) ∧ w = w' :=
  (Tryd.strings_IndexByte _ ((lw n : Nat) : Int) w).mono fun _ _ ⟨he, hw⟩ => ⟨by rw [he, ← hexI_ix ⟨n, hn⟩]; rfl, hw.symm⟩

/-- What the reader's functions of a rune come to. -/
def runeVal (r : Js.R Nat) : Except (Nat × Int) (Value × Nat) := match r with | .ok (u, j) => .ok (.int .i32 (u : Int), j) | .error e => .error e

theorem or16 (n d : Nat) (hn : n < 4096) (hd : d < 16) : bits .or .i32 ((n : Int) * 16) (d : Int) = ((n * 16 + d : Nat) : Int) := by
  rw [bits_join .i32 31 (by decide) wraps_i32 4 ((n : Int) * 16) d (by omega) (by omega) (by omega) (by omega) (by omega) (by omega)]
  omega

set_option maxRecDepth 100000 in
set_option maxHeartbeats 1000000 in
theorem unit_calls (b : Nat) (s : ByteArray) (i : Nat) (w : World) (hs : s.size ≤ 9223372036854775000) (hi : i ≤ s.size) (hr : RdAt w b s i) :
    Calls Tryd.prog 47 #[.pointer (some ⟨b, 0, none⟩)] w (RPost b s w (runeVal (Js.unit s.data.toList i))) := by
  have hh : ∀ w j, RdAt w b s j → j ≤ s.size → Calls Tryd.prog 20 #[.pointer (some ⟨b, 0, none⟩)] w fun e w' => e = .returned (.int .u8 ((Js.hd s.data.toList j : Nat) : Int)) ∧ ∃ n, w' = w.drewN n := fun w j h hj => hand_calls b s j w (by omega) hj h
  have H := Lib.hid hh
  clear hh
  by_cases h117 : Js.hd s.data.toList i = 117
  · have hU : Js.unit s.data.toList i = Js.hexes s.data.toList 4 0 (i + 1) := if_pos h117
    have hi' := hd_pos (s := s) (i := i) (by omega)
    have hW : Js.word s.data.toList (({ data := #[117] } : ByteArray).data.toList.map UInt8.toNat) i = .ok (i + 1) := by
      show (if Js.hd s.data.toList i = 117 then _ else _) = _
      rw [if_pos h117]; rfl
    have HW := Lib.hid hW
    have HU := Lib.hid hU
    clear hW hU h117
    go_enter Tryd.func47, Tryd.ntmps47
    go_wp2_with (go_at_call 21; refine (word_calls b s _ i _ (by omega) (by decide) hi hr (by decide)).mono ?_; rintro e w' hp; rw [HW.out] at hp; obtain ⟨rfl, hr1, hg1⟩ := RPost.ok hp; clear hp)
    go_loopg [3, 7] 5 (fun q n k wr => ∃ (j m p : Nat), i + 1 + j = p ∧ q = 5 - j ∧ j ≤ 4 ∧ k = .int .i64 (j : Int) ∧ n = .int .i32 (m : Int) ∧ m < 16 ^ j ∧ p ≤ s.size ∧ RdAt wr b s p ∧ w.grownBy wr (some b) ∧ Js.unit s.data.toList i = Js.hexes s.data.toList (4 - j) m p)
    case atStart => exact ⟨0, 0, i + 1, rfl, rfl, by omega, rfl, rfl, by decide, by omega, hr1, hg1, HU.out⟩
    case round =>
      obtain ⟨j, m, p, hp, hq, hj, rfl, rfl, hm, hij, hr', hg, he⟩ := hrel
      have HP := Lib.hid hp
      clear hp
      have g0 : (0 : Int) ≤ j := by omega
      by_cases hj4 : j < 4
      · have g1 : (j : Int) < 4 := by omega
        have hm' : m < 4096 := by
          have : 16 ^ j ≤ 16 ^ 3 := Nat.pow_le_pow_right (by decide) (by omega)
          have : (16 : Nat) ^ 3 = 4096 := rfl
          omega
        have hmI : (m : Int) < 4096 := by omega
        have hmI0 : (0 : Int) ≤ m := by omega
        have c0 := hr'.c0
        have c1 := hr'.c1
        have f1 := hr'.f1
        have hlt := hd_lt s.data.toList p
        have e4 : 4 - j = (3 - j) + 1 := by omega
        rw [e4, Js.hexes] at he
        rcases hx : Js.hex (Js.hd s.data.toList p) with _ | d
        · rw [hx] at he
          have hneg : hexI (Js.hd s.data.toList p) < 0 := by unfold hexI; rw [hx]; decide
          have B := Lib.hid he
          clear he hx hm e4 hq
          by_cases hin : p < s.size
          · have k1 : decide ((s.size : Int) ≤ ((p : Nat) : Int)) = false := le_f (by omega)
            go_wp2_with (first | (go_at_call 20; refine (H.out _ p hr' (by omega)).mono ?_; rintro e w' ⟨rfl, n, rfl⟩) | (go_at_call 55; refine (lower_calls _ hlt _).mono ?_; rintro e w' ⟨rfl, rfl⟩) | (go_at_call 19; refine (hexix_calls _ hlt _).mono ?_; rintro e w' ⟨rfl, rfl⟩))
            go_quiet (fail)
            go_wp2_with (go_at_call 15; refine (stop_calls b s p _ (hr'.drewN _)).mono ?_; rintro e w' ⟨rfl, rfl⟩)
            exact end_panic rfl (RPost.mkErr (by rw [B.out]; rfl) rfl (gb_drewN hg _))
          · have k1 : decide ((s.size : Int) ≤ ((p : Nat) : Int)) = true := le_t (by omega)
            go_wp2_with (first | (go_at_call 20; refine (H.out _ p hr' (by omega)).mono ?_; rintro e w' ⟨rfl, n, rfl⟩) | (go_at_call 55; refine (lower_calls _ hlt _).mono ?_; rintro e w' ⟨rfl, rfl⟩) | (go_at_call 19; refine (hexix_calls _ hlt _).mono ?_; rintro e w' ⟨rfl, rfl⟩))
            go_quiet (fail)
            go_wp2_with (go_at_call 15; refine (stop_calls b s p _ (hr'.drewN _)).mono ?_; rintro e w' ⟨rfl, rfl⟩)
            exact end_panic rfl (RPost.mkErr (by rw [B.out]; rfl) rfl (gb_drewN hg _))
        · rw [hx] at he
          obtain ⟨hd16, h48⟩ := hex_lt hx
          have hin := hd_pos (s := s) (i := p) (by omega)
          have k1 : decide ((s.size : Int) ≤ ((p : Nat) : Int)) = false := le_f (by omega)
          have hI : hexI (Js.hd s.data.toList p) = (d : Int) := by unfold hexI; rw [hx]
          have hI0 : (0 : Int) ≤ d := by omega
          have hI16 : (d : Int) < 16 := by omega
          have HI := Lib.hid hI
          have hm2 : m * 16 + d < 16 ^ (j + 1) := by rw [Nat.pow_succ]; omega
          have OR := Lib.hid (or16 m d hm' hd16)
          have B := Lib.hid he
          clear he hx hm e4 h48 hI
          go_wp2_with (first | (go_at_call 20; refine (H.out _ p hr' (by omega)).mono ?_; rintro e w' ⟨rfl, n, rfl⟩) | (go_at_call 55; refine (lower_calls _ hlt _).mono ?_; rintro e w' ⟨rfl, rfl⟩) | (go_at_call 19; refine (hexix_calls _ hlt _).mono ?_; rw [HI.out]; rintro e w' ⟨rfl, rfl⟩))
          go_quiet (fail)
          go_wp2
          go_roundg (5 - (j + 1))
          case measure => omega
          case rel =>
            refine ⟨j + 1, m * 16 + d, p + 1, by have := HP.out; omega, rfl, by omega, by go_num, ?_, hm2, by omega, (hr'.drewN _).set (p + 1) (by omega), gb_setCell (gb_drewN hg _) (.inr rfl) _, ?_⟩
            · rw [← OR.out]
            · have := B.out
              rw [this, show 4 - (j + 1) = 3 - j by omega]
      · have g1 : (4 : Int) ≤ j := by omega
        have hj' : j = 4 := by omega
        have B := Lib.hid he
        clear he hm hq
        go_wp2
        go_ret
        subst hj'
        exact RPost.mkOk (by rw [B.out]; rfl) rfl hr' hg
  · have hU : Js.unit s.data.toList i = .error (i, 30) := if_neg h117
    have hW : Js.word s.data.toList (({ data := #[117] } : ByteArray).data.toList.map UInt8.toNat) i = .error (i, 30) := by
      show (if Js.hd s.data.toList i = 117 then _ else _) = _
      rw [if_neg h117]
    have HW := Lib.hid hW
    have HU := Lib.hid hU
    clear hW hU h117
    go_enter Tryd.func47, Tryd.ntmps47
    go_wp2_with (go_at_call 21; refine (word_calls b s _ i _ (by omega) (by decide) hi hr (by decide)).mono ?_; rintro e w' hp; rw [HW.out] at hp; obtain ⟨rfl, hg1⟩ := RPost.error hp; clear hp)
    exact end_panic rfl (RPost.mkErr (by rw [HU.out]; rfl) rfl hg1)
end Go.Proofs.YtgnobnbbjekgnaaDoor
