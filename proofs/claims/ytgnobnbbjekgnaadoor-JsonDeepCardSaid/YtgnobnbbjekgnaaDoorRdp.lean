import Derived.Test.YtgnobnbbjekgnaaDoorCards
import Derived.Test.YtgnobnbbjekgnaaDoorTie
import Derived.Test.YtgnobnbbjekgnaaDoorDwk
import Derived.Test.YtgnobnbbjekgnaaDoorLaw
import Derived.WalkKit
import Derived.ProofKit
import Derived.OpenShut
import Derived.SizedLaws
import Derived.Deep.DeepHandedRow
import Derived.Deep.DeepWitnessRowRef
import Derived.Deep.Grids
/- JsonDeep: for every input the law returns true; each argument reads as it did. Conditions: those of the given card (the listed variables as the program's text lays them). -/
namespace Go.Proofs.YtgnobnbbjekgnaaDoor.jsonDeep
open Go.ChangeShapes Go.WideShapes Go.ChangeAt Go.RowKit
open Go.ChangeMaps (open_string shut_string)
set_option linter.unusedVariables false

theorem own : ownKnob Tryd.prog.godebug = none := by kernel_rfl
theorem env_of {W : World} (hL : laidMetH Tryd.prog Rows.jsonDeepRow.laid W) : Env W :=
  ⟨env_tabs (Lib.laidMet.reads hL (by unfold Rows.jsonDeepRow; repeat (first | exact List.Mem.head _ | refine List.Mem.tail _ ?_))) (Lib.laidMet.reads hL (by unfold Rows.jsonDeepRow; repeat (first | exact List.Mem.head _ | refine List.Mem.tail _ ?_))), env_syn (Lib.laidMet.reads hL (by unfold Rows.jsonDeepRow; repeat (first | exact List.Mem.head _ | refine List.Mem.tail _ ?_)))⟩
theorem laid_met (os : Os) (args : Array Value) : laidMet Tryd.prog Rows.jsonDeepRow.laid ((World.laidAll Tryd.prog os Rows.jsonDeepRow.laid).forCall (fun _ _ => 0) ⟨#[], args, []⟩).memory :=
  laidMet_laidAll _ (by kernel_rfl) (by kernel_rfl)
theorem witness_row (os : Os) {H : Type} (enc : TypeId × Value → H) :
    (OpenSpec.ofChange Rows.jsonDeepSpec).preRow enc Tryd.prog Tryd.f6 Rows.jsonDeepRow.domain false Rows.jsonDeepRow.laid ((World.laidAll Tryd.prog os Rows.jsonDeepRow.laid).forCall (fun _ _ => 0) ⟨#[], #[.slice none 0 0, .int .i64 0], []⟩).memory #[.slice none 0 0, .int .i64 0] := by
  have hw : (DataW.whole enc Tryd.prog ((World.laidAll Tryd.prog os Rows.jsonDeepRow.laid).forCall (fun _ _ => 0) ⟨#[], #[.slice none 0 0, .int .i64 0], []⟩).memory Tryd.f6.params.toList Rows.jsonDeepSpec.vars false (#[Value.slice none 0 0, Value.int .i64 0] : Array Value).toList 8).map (fun x => (x.1, x.2.1)) =
      some ([.nil, .lit (.int .i64 0)], []) := by kernel_rfl
  obtain ⟨⟨x1, x2, x3⟩, hx, hx1⟩ := Option.map_eq_some_iff.1 hw
  simp only [Prod.mk.injEq] at hx1
  obtain ⟨rfl, rfl⟩ := hx1
  exact OpenSpec.preRow_of_cond 8 hx (by kernel_rfl) (fun k hk => by cases hk) (by kernel_rfl) (laid_met os _)

set_option maxRecDepth 100000 in
set_option maxHeartbeats 2000000 in
theorem lifted (os : Os) (started : os.Started) (H : Type) (enc : TypeId × Value → H) (F : Stop.Interp) :
    ReturnsInHanded {} Tryd.checked os 6 .any ((OpenSpec.ofChange Rows.jsonDeepSpec).preRow enc Tryd.prog Tryd.f6 Rows.jsonDeepRow.domain false Rows.jsonDeepRow.laid) (((OpenSpec.ofChange Rows.jsonDeepSpec).at F).post enc Tryd.prog Tryd.f6 false true false false) := by
  refine returnsInHanded_of_row (C := Tryd.checked) (s := OpenSpec.ofChange Rows.jsonDeepSpec) own started (by kernel_rfl) Tryd.func6
    (witness_row_atRef (enc := enc) (C := Tryd.checked) false (World.laidAll Tryd.prog os Rows.jsonDeepRow.laid) #[.slice none 0 0, .int .i64 0] (World.laidAll_os _ _ _) (by kernel_rfl) (by kernel_rfl) (by kernel_rfl) (witness_row os enc)) ?_
  intro W base args ds gs before hval0 hW _ _ hsz0 hL _ _
  have hval : ∀ (j : Nat) t v, Tryd.f6.params[j]? = some t → args[j]? = some v → Value.okWide Tryd.prog W .any base t v := hval0
  have hsz : (DataW.weightsEach Tryd.prog (Tryd.f6.params.toList ++ Rows.jsonDeepSpec.plain.varTypes Tryd.prog) (ds ++ gs)).all (· ≤ reachBytes) = true := hsz0
  have hW' := hW
  obtain ⟨p, q, hA0, hV, rfl, _, _⟩ := hW
  have hA : DataW.TrodAll enc Tryd.prog W 0 (fun _ => true) true Tryd.f6.params.toList args.toList ds p := hA0
  rw [Tryd.params6] at hA hval
  clear hA0 hval0 hsz0
  obtain ⟨v0, vs0, d0, ds0, p0, q0, hargs0, rfl, rfl, h0, r0⟩ := trodAll_cons hA
  obtain ⟨v1, vs1, d1, ds1, p1, q1, hargs1, rfl, rfl, h1, r1⟩ := trodAll_cons r0
  obtain ⟨rfl, rfl, rfl⟩ := trodAll_nil r1
  subst hargs1
  obtain rfl : args = #[v0, v1] := by cases args; simp_all
  obtain ⟨rfl, rfl⟩ := trodVars_none hV
  have hE := env_of hL
  obtain ⟨z, rfl, rfl, rfl, wz⟩ := open_int Tryd.underlying3 (hval 1 3 v1 rfl rfl) h1
  have hz : -9223372036854775808 ≤ z ∧ z ≤ 9223372036854775807 := by
    have h := wz
    simp [Lit.wf] at h
    exact ⟨h.1, h.2⟩
  obtain ⟨a, n, cap, rfl⟩ := okWide_slice Tryd.underlying36 (hval 0 36 v0 rfl rfl)
  obtain ⟨fuel, hf⟩ := h0
  obtain ⟨bs, hn, hlen, hrow⟩ : ∃ bs : List Bool, n = bs.length ∧ bs.length ≤ 9223372036854775000 ∧ SeeRow (fun _ => True) False W a (bs.map Value.bool) := by
    rcases Deep.open_bools Tryd.underlying36 Tryd.underlying4 (by kernel_rfl) hf with ⟨e, _⟩ | ⟨a', len, cap', B, e, _, hl, hm, hx, hc⟩
    · cases e
      exact ⟨[], rfl, by simp, SeeRow.none _⟩
    · cases e
      refine ⟨(List.range n).map B, by simp, ?_, ?_⟩
      · have e1 : d0 = _ := (Prod.mk.inj hx).1
        have h := sized_slice (j := 0) (t := 36) hsz rfl (show _ = some (Deep.boolRow (some a') n cap B) by rw [e1]; rfl) Tryd.underlying36
        have h2 := reachBytes_lt
        have h3 : Tryd.prog.bytesOf 4 = 1 := by kernel_rfl
        rw [h3] at h
        simp at h ⊢
        omega
      · rcases Nat.eq_zero_or_pos n with h0 | h0
        · subst h0; exact .inl (by simp)
        have hc0 := hc 0 (by omega)
        obtain ⟨g, off, sp⟩ := a'
        have hsp : sp = none := by
          unfold World.cell? Addr.add at hc0
          simp only at hc0
          split at hc0
          · cases sp with
            | none => rfl
            | some x => simp at hc0
          · cases hc0
        subst hsp
        have hlt := cell_lt hc0
        refine .inr ⟨g, off, rfl, trivial, hlt, (fun h => h.elim), fun j v hj => ?_⟩
        rw [List.map_map, List.getElem?_map] at hj
        have hj' : j < n := by
          rcases Nat.lt_or_ge j n with h | h
          · exact h
          · rw [List.getElem?_eq_none (by simp; omega)] at hj; cases hj
        rw [List.getElem?_range hj'] at hj
        cases hj
        have := hc j (by omega)
        cases j <;> simpa [Addr.add] using this
  subst hn
  refine (deep_calls a cap bs z W hz hlen hrow hE).mono fun e W' ⟨he, hg⟩ => ?_
  subst he
  exact ⟨_, rfl, post_law rfl (by kernel_rfl) (fun t ht => of_decide_eq_true (List.all_eq_true.1 (show (Tryd.f6.params.toList.all fun t => decide (t < Tryd.prog.types.size)) = true by kernel_rfl) t ht)) rfl hW' hg⟩

theorem said : Rows.JsonDeepSaid :=
  OpenClaim.holds_of_cond 6 Tryd.f6 rfl rfl rfl rfl rfl rfl rfl ⟨rfl, rfl, rfl, rfl, rfl⟩ rfl rfl rfl rfl rfl (by kernel_rfl) Tryd.func6 (by kernel_rfl)
    (of_decide_eq_true (by kernel_rfl)) (by unfold Func.isWrapper; first | (rw [if_pos (by decide +kernel)]; kernel_rfl) | (rw [if_neg (by decide +kernel)]; exact ⟨rfl, rfl⟩))
    (fun os started H enc _ F => by rw [OpenClaim.pre_eq_preRow]; exact lifted os started H enc F)
theorem plain (f : FuncId) (fn : Func) (hf : Tryd.pinned.checked.prog.funcNamed Rows.jsonDeepRow.func = some f) (hfn : Tryd.pinned.checked.prog.funcs[f]? = some fn) :
    true = Tryd.pinned.checked.prog.looks [] ∧ ∀ (j : Nat) t, fn.params[j]? = some t → Tryd.pinned.checked.prog.wantsStandIn t = false := by
  obtain rfl : f = 6 := Option.some.inj ((show Tryd.prog.funcNamed Rows.jsonDeepRow.func = some 6 by kernel_rfl).symm.trans hf) |>.symm
  obtain rfl : fn = Tryd.f6 := (Option.some.inj (Tryd.func6.symm.trans hfn)).symm
  refine ⟨by kernel_rfl, fun j t ht => ?_⟩
  rw [Tryd.params6] at ht
  have hm : t ∈ [36, 3] := by simpa using Array.mem_of_getElem? ht
  have hall : ([36, 3].all fun u => !Tryd.prog.wantsStandIn u) = true := by kernel_rfl
  exact (show Tryd.prog.wantsStandIn t = false by simpa using List.all_eq_true.1 hall t hm)
/-- The card. -/
theorem card : Rows.JsonDeepCardSaid :=
  Claim7.holds_tied_plain_at .later [] _ _ _ _ said (fun _ h => by cases h) (by kernel_rfl) (fun _ h => by cases h) jsonDeep_row_tie rfl ⟨rfl, rfl⟩ (by kernel_rfl) rfl plain (by kernel_rfl)
#print axioms card
end Go.Proofs.YtgnobnbbjekgnaaDoor.jsonDeep
