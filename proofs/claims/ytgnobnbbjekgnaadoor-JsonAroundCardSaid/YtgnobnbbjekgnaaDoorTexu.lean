import Derived.Test.YtgnobnbbjekgnaaDoorText
import Derived.Test.YtgnobnbbjekgnaaDoorBld
/- The JSON reader: strings, the walk. -/
namespace Go.Proofs.YtgnobnbbjekgnaaDoor
open Go.RowKit
set_option linter.unusedVariables false

def strVal (r : Js.R (List UInt8)) : Except (Nat × Int) (Value × Nat) := match r with | .ok (t, j) => .ok (.string ⟨t.toArray⟩, j) | .error e => .error e
theorem encodeRune_le (r : Int) : (Lib.encodeRune r).length ≤ 4 := by
  have h1 := Lib.runeCells_length r
  have h2 := Lib.runeCells_le r
  omega
theorem escape_ok {s : ByteArray} {i u j : Nat} (h : Js.escape s.data.toList i = .ok (u, j)) (hi : i ≤ s.size) : u < 1114112 ∧ i < j ∧ j ≤ s.size := by
  unfold Js.escape at h
  rcases he : Js.esc1 (Js.hd s.data.toList i) with _ | c
  · rw [he] at h
    simp only at h
    rcases hu : Js.unit s.data.toList i with e | ⟨u', j'⟩
    · rw [hu] at h; cases h
    · rw [hu] at h
      simp only at h
      have hb := unit_ok hu (by rw [len_data]; exact hi)
      rw [len_data] at hb
      split at h
      · split at h
        · rcases h2 : Js.unit s.data.toList (j' + 1) with e | ⟨v, k⟩
          · rw [h2] at h; cases h
          · rw [h2] at h
            cases h
            have hb2 : j' + 1 ≤ s.data.toList.length := by
              rename_i hp
              unfold Js.pair at hp
              rw [len_data]
              rw [len_data] at hp
              rcases Nat.lt_or_ge s.size (j' + 6) with h' | h'
              · rw [if_pos h'] at hp; cases hp
              · omega
            have hb3 := unit_ok h2 hb2
            rw [len_data] at hb3
            refine ⟨?_, by omega, by omega⟩
            unfold Js.joined
            split <;> omega
        · cases h; omega
      · cases h; omega
  · rw [he] at h
    cases h
    have := hd_pos (esc1_pos he)
    have := (esc_some (hd_lt _ _) he).2.2.2
    omega

theorem Env.belowB {w0 w w' : World} (h0 : Env w0) (h : Env w) (hb : Below w0.heap.size w w') : Env w' := by
  have h1 := cell_lt (h0.tabs.1 0 (by decide))
  have h2 := cell_lt (h0.tabs.2 0 (by decide)).1
  obtain ⟨ev, h3, _⟩ := h0.syn
  have h3 := cell_lt h3
  simp only at h1 h2 h3
  obtain ⟨ev, hc, he⟩ := h.syn
  exact ⟨⟨fun c hc => (hb.cell (p := ⟨_, _, none⟩) h1).trans (h.tabs.1 c hc), fun i hi => ⟨(hb.cell (p := ⟨_, _, none⟩) h2).trans (h.tabs.2 i hi).1, (hb.cell (p := ⟨_, _, none⟩) h2).trans (h.tabs.2 i hi).2⟩⟩, ev, (hb.cell (p := ⟨_, _, none⟩) h3).trans hc, he⟩

set_option maxRecDepth 100000 in
set_option maxHeartbeats 2000000 in
theorem text_calls (b : Nat) (s : ByteArray) (i : Nat) (w : World) (hs : s.size ≤ 262144) (hi : i < s.size) (hr : RdAt w b s i) (hE : Env w) (hb : NotG b) :
    Calls Tryd.prog 22 #[.pointer (some ⟨b, 0, none⟩)] w (RPost b s w (strVal (Js.str s.data.toList i))) := by
  have hh : ∀ w j, RdAt w b s j → j ≤ s.size → Calls Tryd.prog 20 #[.pointer (some ⟨b, 0, none⟩)] w fun e w' => e = .returned (.int .u8 ((Js.hd s.data.toList j : Nat) : Int)) ∧ ∃ n, w' = w.drewN n := fun w j h hj => hand_calls b s j w (by omega) hj h
  have H := Lib.hid hh
  clear hh
  obtain ⟨r, hR⟩ : ∃ r, Js.str s.data.toList i = r := ⟨_, rfl⟩
  rw [hR]
  unfold Js.str at hR
  rw [len_data] at hR
  have R := Lib.hid hR
  have hlt := hr.lt
  have hbB : b < w.heap.size := hr.lt
  have c1 : (w.alloc (.cells #[.pointer none, .slice none 0 0] 59)).cell? ⟨b, 1, none⟩ = some (.int .i64 (i : Int)) := by
    rw [blk_cell (blk_alloc hr _)]; rfl
  have f1 : (w.alloc (.cells #[.pointer none, .slice none 0 0] 59)).frozen? ⟨b, 1, none⟩ = false := blk_free (blk_alloc hr _) 1
  have hr1 : RdAt (w.setCell ⟨b, 1, none⟩ (.int .i64 ((i : Int) + 1))) b s (i + 1) := hr.set (i + 1) (by omega)
  have hg1 : w.grownBy (w.setCell ⟨b, 1, none⟩ (.int .i64 ((i : Int) + 1))) (some b) := gb_set 1 _
  have hz1 : (w.setCell ⟨b, 1, none⟩ (.int .i64 ((i : Int) + 1))).heap.size = w.heap.size := by simp [World.setCell]
  clear hR
  go_enter Tryd.func22, Tryd.ntmps22
  go_wp2_with fail
  go_loopg [] (s.size + 1) (fun q wr => ∃ (p : Nat) (out : List UInt8), s.size + 2 ≤ q + p ∧ p ≤ s.size ∧ out.length ≤ 4 * p ∧ RdAt wr b s p ∧ Env wr ∧ w.grownBy wr (some b) ∧ w.heap.size ≤ wr.heap.size ∧
    Lib.IsBuilderF 59 5 w.heap.size w.heap.size (Lib.byteCells out) wr ∧ Js.text s.data.toList q p out = r)
  case atStart =>
    refine ⟨i + 1, [], by omega, by omega, by simp, blk_alloc hr1 _, ?_, gb_alloc hg1 _, ?_, ?_, R.out⟩
    · exact (hE.grown hg1 (fun j e => by cases e; exact hb)).grown (World.grownBy_alloc _ _ (some b)) (fun j e => by cases e; exact hb)
    · simp [World.setCell]
    · refine .inl ⟨Nat.le_refl _, .slice none 0 0, ?_, World.ownsRowF_nil _ _ _ _, by simp [Value.ownBlock]⟩
      have := blk_new (w.setCell ⟨b, 1, none⟩ (.int .i64 ((i : Int) + 1))) (.cells #[.pointer none, .slice none 0 0] 59)
      rw [hz1] at this
      exact this
  case round =>
    obtain ⟨p, out, hq, hp, ho, hr', hE', hg, hsz, hB, he⟩ := hrel
    have hE0 := hE
    clear hr hr1 hg1 hz1 c1 f1 R hE
    have c1 := hr'.c1
    have c0 := hr'.c0
    have f1 := hr'.f1
    have hlt' := hd_lt s.data.toList p
    obtain ⟨q, rfl⟩ : ∃ q, gk = q + 1 := ⟨gk - 1, by omega⟩
    rw [Js.text] at he
    by_cases h34 : Js.hd s.data.toList p = 34
    · rw [if_pos h34] at he
      have hin := hd_pos (s := s) (i := p) (by omega)
      have k1 := eq_t (show ((Js.hd s.data.toList p : Nat) : Int) = 34 by omega)
      have R := Lib.hid he
      clear he h34
      go_wp2_with fail
      refine (H.out _ p hr' hp).mono ?_; rintro e w' ⟨rfl, n, rfl⟩
      go_wp2_with fail
      have hB2 := builder_kept (hB) (gb_setCell (gb_drewN (World.grownBy.refl wr (some b)) n) (.inr rfl) (.int .i64 ((p : Int) + 1)) (p := ⟨b, 1, none⟩)) (fun j e => by cases e; exact hbB)
      refine (Tryd.Builder_String_any_k w.heap.size w.heap.size out _ hB2 (by simp [World.setCell]; omega)).mono ?_
      rintro e w2 ⟨rfl, -, hb2, -⟩
      go_wp2_with fail
      go_ret
      have hg2 : w.grownBy w2 (some b) := gb_belowB (gb_setCell (gb_drewN hg n) (.inr rfl) _) hb2 (Nat.le_refl _)
      refine RPost.mkOk (by rw [← R.out]; rfl) rfl ?_ hg2
      show w2.heap[b]? = _
      rw [hb2.block b hbB]
      exact (hr'.drewN n).set (p + 1) (by omega)
    rw [if_neg h34] at he
    have k1 := eq_f (show ((Js.hd s.data.toList p : Nat) : Int) ≠ 34 by omega)
    by_cases h32 : Js.hd s.data.toList p < 32
    · rw [if_pos h32] at he
      have k2 : ((Js.hd s.data.toList p : Nat) : Int) < 32 := by omega
      have R := Lib.hid he
      clear he h34 h32
      go_wp2_with fail
      refine (H.out _ p hr' hp).mono ?_; rintro e w' ⟨rfl, n, rfl⟩
      go_wp2_with (go_at_call 15; refine (stop_calls b s p _ (hr'.drewN _)).mono ?_; rintro e w' ⟨rfl, rfl⟩)
      exact end_panic rfl (RPost.mkErr (by rw [← R.out]; rfl) rfl (gb_drewN hg _))
    rw [if_neg h32] at he
    have k2 : (32 : Int) ≤ ((Js.hd s.data.toList p : Nat) : Int) := by omega
    have hin := hd_pos (s := s) (i := p) (by omega)
    by_cases h92 : Js.hd s.data.toList p = 92
    · rw [if_pos h92] at he
      have k3 := eq_t (show ((Js.hd s.data.toList p : Nat) : Int) = 92 by omega)
      clear h34 h32 h92
      rcases hx : Js.escape s.data.toList (p + 1) with ⟨p1, q1⟩ | ⟨u, j⟩
      · rw [hx] at he
        have R := Lib.hid (show .error (p1, q1) = r from he)
        have HX := Lib.hid hx
        clear he hx
        go_wp2_with fail
        refine (H.out _ p hr' hp).mono ?_; rintro e w' ⟨rfl, n, rfl⟩
        have hE2 : Env ((wr.drewN n).setCell ⟨b, 1, none⟩ (.int .i64 ((p : Int) + 1))) := (hE'.drewN n).grown (gb_set 1 _) (fun j e => by cases e; exact hb)
        go_wp2_with (go_at_call 35; refine (escape_calls b s (p + 1) _ (by omega) (by omega) ((hr'.drewN n).set (p + 1) (by omega)) hE2 hb).mono ?_; rintro e w' hp; rw [HX.out] at hp; obtain ⟨rfl, hg2⟩ := RPost.error hp; clear hp)
        exact end_panic rfl (RPost.mkErr (by rw [← R.out]; rfl) rfl ((gb_setCell (gb_drewN hg n) (.inr rfl) _).trans hg2))
      · rw [hx] at he
        obtain ⟨hu, hj1, hj2⟩ := escape_ok hx (by omega)
        obtain ⟨x, hxx⟩ : ∃ x : Int, (u : Int) = x := ⟨_, rfl⟩
        have ES := Lib.hid (show ∀ wx, RdAt wx b s (p + 1) → Env wx → Calls Tryd.prog 35 #[.pointer (some ⟨b, 0, none⟩)] wx fun e w' => e = .returned (.int .i32 x) ∧ RdAt w' b s j ∧ wx.grownBy w' (some b) from fun wx h h' => (escape_calls b s (p + 1) wx (by omega) (by omega) h h' hb).mono (by
          intro e w' hp; rw [hx] at hp; rw [← hxx]; exact RPost.ok hp))
        have W := Lib.hid (fun wx (h : BdF w.heap.size w.heap.size (Lib.byteCells out) wx) (hz : w.heap.size ≤ wx.heap.size) => WriteRune_calls w.heap.size w.heap.size (Lib.byteCells out) x (by omega) (by omega) wx h (by rw [Lib.byteCells_length]; omega) hz)
        have HU := Lib.hid hxx
        have R := Lib.hid (show Js.text s.data.toList q j (out ++ Lib.encodeRune u) = r from he)
        clear he hx hxx hu
        go_wp2_with fail
        refine (H.out _ p hr' hp).mono ?_; rintro e w' ⟨rfl, n, rfl⟩
        go_wp2_with fail
        have hg1 := gb_setCell (gb_drewN (World.grownBy.refl wr (some b)) n) (.inr rfl) (.int .i64 ((p : Int) + 1)) (p := ⟨b, 1, none⟩)
        refine (ES.out _ ((hr'.drewN n).set (p + 1) (by omega)) (hE'.grown hg1 (fun j e => by cases e; exact hb))).mono ?_
        rintro e w2 ⟨rfl, hr2, hg2⟩
        have hg3 := hg1.trans hg2
        have hz2 := Nat.le_trans hsz hg3.size
        go_wp2_with fail
        refine (W.out _ (builder_kept hB hg3 (fun j e => by cases e; exact hbB)) hz2).mono ?_
        rintro e w3 ⟨rfl, hB3, hb3⟩
        go_wp2_with fail
        have hg4 : w.grownBy w3 (some b) := gb_belowB (hg.trans hg3) hb3 (Nat.le_refl _)
        have he := R.out
        have hux := HU.out
        go_roundg q
        case measure => omega
        case rel =>
          refine ⟨j, out ++ Lib.encodeRune u, by omega, by omega, by rw [List.length_append]; have := encodeRune_le (u : Int); omega, ?_, ?_, hg4, Nat.le_trans hz2 hb3.size, .inr ?_, he⟩
          · show w3.heap[b]? = _
            rw [hb3.block b hbB]; exact hr2
          · exact hE0.belowB (hE'.grown hg3 (fun j e => by cases e; exact hb)) hb3
          · rw [Lib.byteCells_append, Lib.byteCells_encodeRune, hux]; exact hB3
    rw [if_neg h92] at he
    have k3 := eq_f (show ((Js.hd s.data.toList p : Nat) : Int) ≠ 92 by omega)
    have NX := next_calls s p (by omega) (by omega)
    unfold nextVal at NX
    clear h34 h32 h92
    by_cases hwh : Js.whole s.data.toList p = true
    · rw [if_pos hwh] at he
      rw [if_pos hwh] at NX
      obtain ⟨h1, h2, h3, h4⟩ := dec_bounds (s := s) (i := p) (by omega)
      have hbit : (s.extract p (p + (Js.dec s.data.toList p).2)).data.toList = (s.data.toList.drop p).take (Js.dec s.data.toList p).2 := by rw [extract_list s _ _ (by omega)]; congr 1; omega
      rw [← hbit] at he
      obtain ⟨x, hx⟩ : ∃ x : Int, (((Js.dec s.data.toList p).1 : Nat) : Int) = x := ⟨_, rfl⟩
      rw [hx] at NX
      generalize (Js.dec s.data.toList p).2 = y at he NX h1 h2 h3
      have hsz' := hsz
      have hsz := extract_size' s p (p + y) h2
      have N := Lib.hid (fun wx (h : Env wx) => NX wx h.tabs)
      have W := Lib.hid (fun wx (h : BdF w.heap.size w.heap.size (Lib.byteCells out) wx) (hz : w.heap.size ≤ wx.heap.size) => WriteString_calls w.heap.size w.heap.size (Lib.byteCells out) (s.extract p (p + y)) wx h (by rw [Lib.byteCells_length, hsz]; omega) hz)
      obtain ⟨q2, hq2⟩ : ∃ q2, p + y = q2 := ⟨_, rfl⟩
      rw [hq2] at he W hsz h2
      have R := Lib.hid he
      have E := Lib.hid (fun n (wx : World) (h : Below wr.heap.size (wr.drewN n) wx) => (hE'.drewN n).below h)
      have HQ := Lib.hid hq2
      have qz : (p : Int) + (y : Int) = (q2 : Int) := by omega
      clear he hwh hbit hx NX hq2 h4
      go_wp2_with fail
      refine (H.out _ p hr' hp).mono ?_; rintro e w' ⟨rfl, n, rfl⟩
      go_wp2_with fail
      have q0 : (0 : Int) ≤ (p : Int) := by omega
      have q1 : (p : Int) ≤ (q2 : Int) := by omega
      have q3 : (q2 : Int) ≤ (s.size : Int) := by omega
      have qw : IntKind.i64.wrap ((p : Int) + (y : Int)) = (q2 : Int) := by rw [qz]; exact IntWalk.i64_in _ (by omega)
      clear qz
      go_region_held3 (fun w' => w'.cell? ⟨b, 0, none⟩ = some (.string s) ∧ w'.cell? ⟨b, 1, none⟩ = some (.int .i64 (p : Int)))
        (first | go_keep | exact ⟨(hb1.cell (cell_lt c0)).trans c0, (hb1.cell (cell_lt c1)).trans c1⟩)
        ((go_at_call 36; refine (N.out _ (by first | exact hE' | exact hE'.drewN _ | exact ⟨hE'.tabs, hE'.syn⟩)).mono ?_; rintro e w1 ⟨rfl, hb1⟩))
      go_wp2_with fail
      have hg1 : wr.grownBy w1 (some b) := (gb_drewN (World.grownBy.refl wr (some b)) _).trans (gb_of_below hb1 (some b))
      have hbw : b < wr.heap.size := hr'.lt
      have hr1 : RdAt w1 b s p := by show w1.heap[b]? = _; rw [hb1.block b hbw]; exact hr'
      have hE1 : Env w1 := E.out _ _ hb1
      have hB1 : BdF w.heap.size w.heap.size (Lib.byteCells out) w1 := builder_kept hB hg1 (fun j e => by cases e; exact hbB)
      have hz1 := Nat.le_trans hsz' hg1.size
      have c0 := hr1.c0
      have c1 := hr1.c1
      clear f1
      go_region_held3 (fun w' => w'.cell? ⟨b, 0, none⟩ = some (.string s) ∧ w'.cell? ⟨b, 1, none⟩ = some (.int .i64 (p : Int)))
        (first | go_keep | exact ⟨(hb3.cell hbB).trans c0, (hb3.cell hbB).trans c1⟩)
        ((go_at_call 37; refine (W.out _ (by first | exact hB1 | exact builder_kept hB1 (gb_drewN (World.grownBy.refl w1 none) _) (fun j e => by cases e)) (by first | exact hz1 | (simp; exact hz1))).mono ?_; rintro e w3 ⟨rfl, hB3, hb3⟩))
      have hr3 : RdAt w3 b s p := by show w3.heap[b]? = _; rw [hb3.block b hbB]; exact hr1
      have hE3 : Env w3 := hE0.belowB (hE1.drewN 1) hb3
      have hg3 : w.grownBy w3 (some b) := gb_belowB (gb_drewN (hg.trans hg1) 1) hb3 (Nat.le_refl _)
      have hz3 : w.heap.size ≤ w3.heap.size := Nat.le_trans hz1 hb3.size
      clear c0 c1
      have c0 := hr3.c0
      have c1 := hr3.c1
      have f1 := hr3.f1
      go_wp2_with fail
      have he := R.out
      have hq3 := HQ.out
      go_roundg q
      case measure => omega
      case rel =>
        have hgs := gb_set (w := w3) (b := b) 1 (.int .i64 (q2 : Int))
        refine ⟨q2, out ++ (s.extract p q2).data.toList, by omega, h2, ?_, hr3.set q2 rfl, hE3.grown hgs (fun j e => by cases e; exact hb), hg3.trans hgs, by simp [World.setCell]; exact hz3, builder_kept (.inr ?_) hgs (fun j e => by cases e; exact hbB), he⟩
        · rw [List.length_append, len_data, hsz]; omega
        · rw [Lib.byteCells_append]; exact hB3
    · rw [if_neg hwh] at he
      rw [if_neg hwh] at NX
      have N := Lib.hid (fun wx (h : Env wx) => NX wx h.tabs)
      have R := Lib.hid he
      clear he hwh NX
      go_wp2_with fail
      refine (H.out _ p hr' hp).mono ?_; rintro e w' ⟨rfl, n, rfl⟩
      go_wp2_with fail
      go_region_held3 (fun w' => w'.cell? ⟨b, 0, none⟩ = some (.string s) ∧ w'.cell? ⟨b, 1, none⟩ = some (.int .i64 (p : Int)))
        (first | go_keep | exact ⟨(hb1.cell (cell_lt c0)).trans c0, (hb1.cell (cell_lt c1)).trans c1⟩)
        ((go_at_call 36; refine (N.out _ (by first | exact hE' | exact hE'.drewN _ | exact ⟨hE'.tabs, hE'.syn⟩)).mono ?_; rintro e w1 ⟨rfl, hb1⟩))
      go_wp2_with fail
      have hbw : b < wr.heap.size := hr'.lt
      have hr1 : RdAt w1 b s p := by show w1.heap[b]? = _; rw [hb1.block b hbw]; exact hr'
      refine (stop_calls b s p _ hr1).mono ?_; rintro e w' ⟨rfl, rfl⟩
      exact end_panic rfl (RPost.mkErr (by rw [← R.out]; rfl) rfl (hg.trans ((gb_drewN (World.grownBy.refl wr (some b)) _).trans (gb_of_below hb1 (some b)))))
end Go.Proofs.YtgnobnbbjekgnaaDoor
