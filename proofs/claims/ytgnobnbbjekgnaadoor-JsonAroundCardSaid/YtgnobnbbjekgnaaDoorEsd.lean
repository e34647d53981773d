import Derived.Test.YtgnobnbbjekgnaaDoorEsc
import Derived.Deep.RegionHeld3
/- The JSON reader: pairs, escapes. -/
namespace Go.Proofs.YtgnobnbbjekgnaaDoor
open Go.RowKit
set_option linter.unusedVariables false

theorem below_from_drewN {w w1 : World} {n : Nat} (h : Below (w.drewN n).heap.size (w.drewN n) w1) : Below w.heap.size w w1 := ⟨h.os, h.tape, h.output, h.size, h.block⟩
theorem hexes_hexL (l : List UInt8) : ∀ (k n i : Nat), i + k ≤ l.length → hexL ((l.drop i).take k) n = match Js.hexes l k n i with | .ok (m, _) => some m | .error _ => none := by
  intro k
  induction k with
  | zero => intro n i h; simp [hexL, Js.hexes]
  | succ k ih =>
    intro n i h
    have hl : i < l.length := by omega
    rw [List.drop_eq_getElem_cons hl, List.take_succ_cons, hexL, Js.hexes, ← hd_get hl]
    rcases Js.hex (Js.hd l i) with _ | d
    · rfl
    · exact ih _ _ (by omega)
theorem hexes_ok {l : List UInt8} : ∀ {k n i m j : Nat}, Js.hexes l k n i = .ok (m, j) → j = i + k ∧ m < (n + 1) * 16 ^ k ∧ (i ≤ l.length → j ≤ l.length) := by
  intro k
  induction k with
  | zero => intro n i m j h; simp [Js.hexes] at h; omega
  | succ k ih =>
    intro n i m j h
    rw [Js.hexes] at h
    rcases hx : Js.hex (Js.hd l i) with _ | d
    · rw [hx] at h; cases h
    · rw [hx] at h
      have := ih h
      obtain ⟨h1, h2, h3⟩ := this
      have hd := hex_lt hx
      refine ⟨by omega, ?_, fun hi => ?_⟩
      · refine Nat.lt_of_lt_of_le h2 ?_
        rw [Nat.pow_succ, Nat.mul_comm (16 ^ k) 16, ← Nat.mul_assoc]
        exact Nat.mul_le_mul_right _ (by omega)
      · rcases Nat.lt_or_ge i l.length with h' | h'
        · exact h3 (by omega)
        · rw [hd_out h'] at hd; omega
theorem unit_ok {l : List UInt8} {i u j : Nat} (h : Js.unit l i = .ok (u, j)) (hi : i ≤ l.length) : u < 65536 ∧ j ≤ l.length ∧ j = i + 5 := by
  unfold Js.unit at h
  split at h
  · rename_i h117
    have hlt : i < l.length := by
      rcases Nat.lt_or_ge i l.length with h' | h'
      · exact h'
      · rw [hd_out h'] at h117; omega
    have := hexes_ok h
    obtain ⟨h1, h2, h3⟩ := this
    exact ⟨by simpa using h2, h3 (by omega), by omega⟩
  · cases h
theorem extract_list (s : ByteArray) (a b : Nat) (h : a ≤ b) : (s.extract a b).data.toList = (s.data.toList.drop a).take (b - a) := by
  rw [Lib.extract_data]
theorem extract_size' (s : ByteArray) (a b : Nat) (h : b ≤ s.size) : (s.extract a b).size = b - a := by
  rw [ByteArray.size_extract]; omega
theorem two_bytes {s : ByteArray} {i : Nat} (h : i + 2 ≤ s.size) (a b : UInt8) : (s.extract i (i + 2)).toList = [a, b] ↔ Js.hd s.data.toList i = a.toNat ∧ Js.hd s.data.toList (i + 1) = b.toNat := by
  rw [ByteArray.toList_eq, extract_list s _ _ (by omega), show i + 2 - i = 2 by omega]
  have h1 : i < s.data.toList.length := by rw [len_data]; omega
  have h2 : i + 1 < s.data.toList.length := by rw [len_data]; omega
  rw [List.drop_eq_getElem_cons h1, List.drop_eq_getElem_cons h2, hd_get h1, hd_get h2]
  simp [UInt8.toNat_inj]

set_option maxRecDepth 100000 in
set_option maxHeartbeats 1000000 in
theorem pair_calls (b : Nat) (s : ByteArray) (i u : Nat) (hu : u < 65536) (w : World) (hs : s.size ≤ 9223372036854775000) (hi : i ≤ s.size) (hr : RdAt w b s i) (hE : Env w) :
    Calls Tryd.prog 48 #[.pointer (some ⟨b, 0, none⟩), .int .i32 (u : Int)] w fun e w' => e = .returned (.bool (Js.pair s.data.toList i u)) ∧ Below w.heap.size w w' := by
  have c0 := hr.c0
  have c1 := hr.c1
  have h0 : (0 : Int) ≤ i := by omega
  obtain ⟨r, hr'⟩ : ∃ r, Js.pair s.data.toList i u = r := ⟨_, rfl⟩
  rw [hr']
  unfold Js.pair at hr'
  rw [len_data] at hr'
  by_cases h1 : s.size < i + 6
  · rw [if_pos h1] at hr'
    have R := Lib.hid hr'
    have k1 : decide ((s.size : Int) < (i : Int) + 6) = true := lt_t (by omega)
    clear h1 hr' hr hE
    go_enter Tryd.func48, Tryd.ntmps48
    go_wp2
    go_quiet (fail)
    go_wp2
    go_ret
    exact ⟨by rw [← R.out]; rfl, by exact ⟨rfl, rfl, rfl, Nat.le_refl _, fun _ _ => rfl⟩⟩
  rw [if_neg h1] at hr'
  have k1 : decide ((s.size : Int) < (i : Int) + 6) = false := lt_f (by omega)
  have kle : i + 2 ≤ s.size := by omega
  by_cases h2 : Js.hd s.data.toList i = 92 ∧ Js.hd s.data.toList (i + 1) = 117
  · rw [if_pos h2] at hr'
    have k2 : ((s.extract i (i + 2)).toList == [92, 117]) = true := by simp only [beq_iff_eq]; exact (two_bytes kle 92 117).2 h2
    have X := hexes_hexL s.data.toList 4 0 (i + 2) (by rw [len_data]; omega)
    rw [show (s.data.toList.drop (i + 2)).take 4 = (s.extract (i + 2) (i + 6)).data.toList by rw [extract_list s _ _ (by omega)]; congr 1; omega] at X
    have hsz := extract_size' s (i + 2) (i + 6) (by omega)
    have P0 := fun wx (h : Env wx) => strconv_calls (s.extract (i + 2) (i + 6)) wx (by omega) (by omega) h
    have kle6 : i + 6 ≤ s.size := by omega
    have E := Lib.hid hE
    clear h1 h2 hr hE hsz
    rcases hx : Js.hexes s.data.toList 4 0 (i + 2) with ⟨p, q⟩ | ⟨n, j⟩
    · rw [hx] at hr' X
      have P := Lib.hid (show ∀ wx, Env wx → Calls Tryd.prog 56 #[.string (s.extract (i + 2) (i + 6)), .int .i64 16, .int .i64 32] wx fun e w' => (∃ g, e = .returned (.tuple #[.int .u64 0, .iface 95 (.pointer (some ⟨g, 0, none⟩))])) ∧ Below wx.heap.size wx w' from fun wx h => (P0 wx h).mono (by
        rintro e w' ⟨⟨ev, rfl, h1, h2⟩, hb⟩
        rw [X] at h1
        rcases h2 with rfl | ⟨g, rfl⟩
        · simp at h1
        · exact ⟨⟨g, by rw [X]; rfl⟩, hb⟩))
      have Rr := Lib.hid (show false = r from hr')
      clear hr' X hx P0
      go_enter Tryd.func48, Tryd.ntmps48
      go_wp2
      go_quiet (fail)
      go_wp2
      have q2 : IntKind.i64.wrap ((i : Int) + 2) = (i : Int) + 2 := IntWalk.i64_in _ (by omega)
      have q6 : IntKind.i64.wrap ((i : Int) + 6) = (i : Int) + 6 := IntWalk.i64_in _ (by omega)
      have b2 : (0 : Int) ≤ (i : Int) + 2 := by omega
      have b3 : (i : Int) + 2 ≤ (i : Int) + 6 := by omega
      have b4 : (i : Int) + 6 ≤ (s.size : Int) := by omega
      have t2 : ((i : Int) + 2).toNat = i + 2 := by omega
      have t6 : ((i : Int) + 6).toNat = i + 6 := by omega
      go_region_held3 (fun w' => w'.cell? ⟨b, 0, none⟩ = some (.string s) ∧ w'.cell? ⟨b, 1, none⟩ = some (.int .i64 (i : Int)))
        (first | go_keep | exact ⟨(hb1.cell (cell_lt c0)).trans c0, (hb1.cell (cell_lt c1)).trans c1⟩)
        ((go_at_call 56; refine (P.out _ (by first | exact E.out | exact E.out.drewN _ | exact ⟨E.out.tabs, E.out.syn⟩)).mono ?_; rintro e w1 ⟨⟨g, rfl⟩, hb1⟩))
      go_wp2
      go_ret
      exact ⟨by rw [← Rr.out]; rfl, below_from_drewN hb1⟩
    · rw [hx] at hr' X
      have hn : n < 65536 := by have := (hexes_ok hx).2.1; simpa using this
      have P := Lib.hid (show ∀ wx, Env wx → Calls Tryd.prog 56 #[.string (s.extract (i + 2) (i + 6)), .int .i64 16, .int .i64 32] wx fun e w' => e = .returned (.tuple #[.int .u64 (n : Int), .nilIface]) ∧ Below wx.heap.size wx w' from fun wx h => (P0 wx h).mono (by
        rintro e w' ⟨⟨ev, rfl, h1, h2⟩, hb⟩
        rw [X] at h1
        obtain rfl := h1.2 rfl
        exact ⟨by rw [X]; rfl, hb⟩))
      have Rr := Lib.hid (show (Js.joined u n != 65533) = r from hr')
      have hn0 : (0 : Int) ≤ n := by omega
      have hn1 : (n : Int) < 65536 := by omega
      clear hr' X hx P0
      go_enter Tryd.func48, Tryd.ntmps48
      go_wp2
      go_quiet (fail)
      go_wp2
      have q2 : IntKind.i64.wrap ((i : Int) + 2) = (i : Int) + 2 := IntWalk.i64_in _ (by omega)
      have q6 : IntKind.i64.wrap ((i : Int) + 6) = (i : Int) + 6 := IntWalk.i64_in _ (by omega)
      have b2 : (0 : Int) ≤ (i : Int) + 2 := by omega
      have b3 : (i : Int) + 2 ≤ (i : Int) + 6 := by omega
      have b4 : (i : Int) + 6 ≤ (s.size : Int) := by omega
      have t2 : ((i : Int) + 2).toNat = i + 2 := by omega
      have t6 : ((i : Int) + 6).toNat = i + 6 := by omega
      go_region_held3 (fun w' => w'.cell? ⟨b, 0, none⟩ = some (.string s) ∧ w'.cell? ⟨b, 1, none⟩ = some (.int .i64 (i : Int)))
        (first | go_keep | exact ⟨(hb1.cell (cell_lt c0)).trans c0, (hb1.cell (cell_lt c1)).trans c1⟩)
        ((go_at_call 56; refine (P.out _ (by first | exact E.out | exact E.out.drewN _ | exact ⟨E.out.tabs, E.out.syn⟩)).mono ?_; rintro e w1 ⟨rfl, hb1⟩))
      by_cases hj : Js.joined u n = 65533
      · have J := Lib.hid hj
        have k3 := ne_f (show ((Js.joined u n : Nat) : Int) = 65533 by omega)
        clear hj
        go_wp2_with (go_at_call 50; refine (joined_calls u n hu hn _).mono ?_; rintro e w' ⟨rfl, rfl⟩)
        go_ret
        exact ⟨by rw [← Rr.out, J.out]; rfl, below_from_drewN hb1⟩
      · have J := Lib.hid hj
        have k3 := ne_t (show ((Js.joined u n : Nat) : Int) ≠ 65533 by omega)
        clear hj
        go_wp2_with (go_at_call 50; refine (joined_calls u n hu hn _).mono ?_; rintro e w' ⟨rfl, rfl⟩)
        go_ret
        exact ⟨by rw [← Rr.out, bne_iff_ne.2 J.out]; rfl, below_from_drewN hb1⟩
  · rw [if_neg h2] at hr'
    have k2 : ((s.extract i (i + 2)).toList == [92, 117]) = false := by rw [beq_eq_false_iff_ne]; exact fun h => h2 ((two_bytes kle 92 117).1 h)
    have Rr := Lib.hid (show false = r from hr')
    clear h1 h2 hr' hr hE
    go_enter Tryd.func48, Tryd.ntmps48
    go_wp2
    go_quiet (fail)
    go_wp2
    go_ret
    exact ⟨by rw [← Rr.out]; rfl, by exact ⟨rfl, rfl, rfl, Nat.le_refl _, fun _ _ => rfl⟩⟩

set_option maxHeartbeats 400000 in
theorem unit2_calls (b : Nat) (s : ByteArray) (i : Nat) (w : World) (hs : s.size ≤ 9223372036854775000) (hi : i < s.size) (hr : RdAt w b s i) :
    Calls Tryd.prog 49 #[.pointer (some ⟨b, 0, none⟩)] w (RPost b s w (runeVal (Js.unit s.data.toList (i + 1)))) := by
  have c1 := hr.c1
  have f1 := hr.f1
  rcases hu : Js.unit s.data.toList (i + 1) with ⟨p, q⟩ | ⟨u, j⟩
  · have HU := Lib.hid hu
    clear hu
    go_enter Tryd.func49, Tryd.ntmps49
    go_wp2_with (go_at_call 47; refine (unit_calls b s (i + 1) _ hs (by omega) (hr.set (i + 1) (by omega))).mono ?_; rintro e w' hp; rw [HU.out] at hp; obtain ⟨rfl, hg2⟩ := RPost.error hp; clear hp)
    exact end_panic rfl (RPost.mkErr rfl rfl ((gb_set 1 _).trans hg2))
  · have HU := Lib.hid hu
    clear hu
    go_enter Tryd.func49, Tryd.ntmps49
    go_wp2_with (go_at_call 47; refine (unit_calls b s (i + 1) _ hs (by omega) (hr.set (i + 1) (by omega))).mono ?_; rintro e w' hp; rw [HU.out] at hp; obtain ⟨rfl, hr2, hg2⟩ := RPost.ok hp; clear hp)
    go_ret
    exact RPost.mkOk rfl rfl hr2 ((gb_set 1 _).trans hg2)

/-- Where a sign stands among the escapes' signs. -/
def escI (c : Nat) : Int := ixOf [34, 92, 47, 98, 102, 110, 114, 116] c.toUInt8
theorem esc_ix_calls (c : Nat) (hc : c < 256) (w : World) :
    Calls Tryd.prog 19 #[.string ⟨#[34, 92, 47, 98, 102, 110, 114, 116]⟩, .int .u8 (c : Int)] w fun e w' => e = .returned (.int .i64 (escI c)) ∧ w = w' :=
  (Tryd.strings_IndexByte _ (c : Int) w).mono fun _ _ ⟨he, hw⟩ => ⟨by rw [he]; rfl, hw.symm⟩
def escOk (c : Nat) : Bool := match Js.esc1 c with
  | some u => decide (0 ≤ escI c ∧ escI c < 8 ∧ ([34, 92, 47, 8, 12, 10, 13, 9] : List UInt8).getD (escI c).toNat 0 = u.toUInt8 ∧ u < 128)
  | none => decide (escI c < 0)
theorem escOk_all : ∀ c : Fin 256, escOk c.val = true := by decide +kernel
end Go.Proofs.YtgnobnbbjekgnaaDoor
