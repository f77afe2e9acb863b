/- Proved: 'wringerlaw10.MergePasses' answers true for every input, and leaves its arguments as they were. Condition: the four package variables read as the program's own text lays them (tied). -/
import Derived.Test.YtmopegpkoedgbaaGreatDoorTiedM
import Derived.Test.YtmopegpkoedgbaaGreatDoorCards
import Derived.Test.YtmopegpkoedgbaaGreatDoorTie
import Derived.SevenTiedAt
import Derived.ChangeSame
import Derived.ChangeVars
import Derived.JoinedOf
import Derived.Test.YtmopegpkoedgbaaGreatDoorLawBase
import Derived.Test.YtmopegpkoedgbaaGreatDoorM27
namespace Go.Proofs.YtmopegpkoedgbaaGreatDoor.mergePasses
open Go.ChangeShapes Go.WideShapes Go.ChangeAt Go.RowKit Go.Joins
open Go.ChangeMaps (open_string shut_string)
set_option linter.unusedVariables false

set_option maxRecDepth 100000 in
theorem lifted (os : Os) (started : os.Started) (H : Type) (enc : TypeId × Value → H) :
    ReturnsInHanded {} Tryz.checked os 6 .any (fun w args => (Rows.mergePassesSpec.pre enc Tryz.prog Tryz.f6 [] false w args ∧ laidMetH Tryz.prog laidM w) ∧ sizedMet enc Tryz.prog Tryz.f6 (OpenSpec.ofChange Rows.mergePassesSpec) false w args) (Rows.mergePassesSpec.post enc Tryz.prog Tryz.f6 false true false false) := by
  refine returnsInHanded_of_change_and (C := Tryz.checked) (X := fun w _ => laidMetH Tryz.prog laidM w) (fun _ _ _ hh h => h.of_heap hh) own started (by kernel_rfl) Tryz.func6
    (ChangeSpec.witness_at (enc := enc) (C := Tryz.checked) (os := os) (X := fun w _ => laidMetH Tryz.prog laidM w) false (laidWorldM os) #[.int .i64 0, .int .i64 0] 8 (laidWorldM_os os) (by kernel_rfl) (by kernel_rfl) (by kernel_rfl) (by kernel_rfl) (by kernel_rfl) (laidWorldM_met os _)) ?_
  intro W base args ds gs before hval0 hW hcnd _ hL _
  have hval : ∀ (j : Nat) t v, Tryz.f6.params[j]? = some t → args[j]? = some v → Value.okWide Tryz.prog W .any base t v := hval0
  have hW' := hW
  obtain ⟨p, q, hA0, hV, rfl, hfz, hnd⟩ := hW
  have hA : DataW.TrodAll enc Tryz.prog W 0 (fun _ => true) true Tryz.f6.params.toList args.toList ds p := hA0
  rw [Tryz.params6] at hA hval
  obtain ⟨v0, vs0, d0, ds0, p0, q0, hargs, rfl, rfl, h0, r0⟩ := trodAll_cons hA
  obtain ⟨v1, vs1, d1, ds1, p1, q1, rfl, rfl, rfl, h1, r1⟩ := trodAll_cons r0
  obtain ⟨rfl, rfl, rfl⟩ := trodAll_nil r1
  obtain rfl : args = #[v0, v1] := by cases args; simp_all
  obtain ⟨rfl, rfl⟩ := trodVars_none hV
  have k0 := h0
  have lt0 : ∀ x ∈ p0, x.block < W.heap.size := by obtain ⟨m, hm⟩ := k0; exact DataW.trod_lt m _ _ _ hm
  have k1 := h1
  have lt1 : ∀ x ∈ p1, x.block < W.heap.size := by obtain ⟨m, hm⟩ := k1; exact DataW.trod_lt m _ _ _ hm
  obtain ⟨x0, rfl, e0, f0, wx0⟩ := open_int Tryz.underlying3 (hval 0 3 v0 rfl rfl) h0
  obtain ⟨x1, rfl, e1, f1, wx1⟩ := open_int Tryz.underlying3 (hval 1 3 v1 rfl rfl) h1
  obtain ⟨⟨oo, hO⟩, hG⟩ := laidM_gives hL
  clear hA0 hval0
  refine (mergePasses_any oo x0 x1 W (wf_i64 wx0) (wf_i64 wx1) hG hO).mono fun e W' ⟨he, bel⟩ => ?_
  subst he
  exact ⟨_, rfl, _, _, _, [], _, [], hW', trodAll_mk1 (shut_bool Tryz.underlying4 _), (trodAll_cons_mk (Below.trod laidOut (by kernel_rfl) (of_decide_eq_true (by kernel_rfl)) k0 bel lt0) (trodAll_cons_mk (Below.trod laidOut (by kernel_rfl) (of_decide_eq_true (by kernel_rfl)) k1 bel lt1) trodAll_mk0)), rfl, bel.frame _, fun h => by cases h⟩

set_option maxRecDepth 100000 in
theorem lifted2 (os : Os) (started : os.Started) (H : Type) (enc : TypeId × Value → H) :
    ReturnsInHanded {} Tryz.checked os 6 .any (fun w args => (Rows.mergePassesSpec.pre enc Tryz.prog Tryz.f6 [] false w args ∧ laidMetH Tryz.prog laidM w) ∧ sizedMet enc Tryz.prog Tryz.f6 (OpenSpec.ofChange Rows.mergePassesSpec) false w args) (Rows.mergePassesSpec.post enc Tryz.prog Tryz.f6 false true false false) :=
  lifted os started H enc
theorem c1 : joinedFacts Tryz.prog 6 Tryz.f6 Rows.mergePassesSpec Rows.mergePassesRow = true := by kernel_rfl
theorem c2 : Tryz.f6.isInstance Tryz.prog Rows.mergePassesRow.origin Rows.mergePassesRow.targs := of_decide_eq_true (by kernel_rfl)
theorem c3 : Tryz.f6.isWrapper Tryz.prog Rows.mergePassesRow.wrapper Rows.mergePassesRow.mainSum := by unfold Func.isWrapper; first | (rw [if_pos (by decide +kernel)]; kernel_rfl) | (rw [if_neg (by decide +kernel)]; exact ⟨rfl, rfl⟩)
theorem c4 : Tryz.prog.funcNamed Rows.mergePassesRow.func = some 6 := by kernel_rfl
theorem c5 (os : Os) (started : os.Started) (H : Type) (enc : TypeId × Value → H) : ReturnsInHanded Rows.mergePassesRow.assume Tryz.checked os 6 .any (Rows.mergePassesRow.pre enc Tryz.prog Tryz.f6 (OpenSpec.ofChange Rows.mergePassesSpec)) (Rows.mergePassesSpec.post enc Tryz.prog Tryz.f6 Rows.mergePassesRow.apart Rows.mergePassesRow.fresh Rows.mergePassesRow.handsOn Rows.mergePassesRow.again) := lifted2 os started H enc
theorem over : Rows.mergePassesRow.holds Tryz.pinned (OpenSpec.ofChange Rows.mergePassesSpec) :=
  OpenClaim.holds_of_wide 6 Tryz.f6 rfl rfl rfl rfl rfl rfl rfl ⟨rfl, rfl, rfl, rfl, rfl⟩ rfl rfl rfl rfl rfl c4 Tryz.func6 c1 c2 c3
    (fun os started H enc _ => c5 os started H enc)
theorem proved : Rows.MergePassesCardSaid :=
  Claim7.holds_tied_plain_at .later [] _ _ (true, "430d926ed34f588629b593105b7fd0769059991c23445feb871595bbae5d1c6d") _
    over (fun _ h => by cases h) (by kernel_rfl) (fun _ h => by cases h) mergePasses_row_tie rfl ⟨rfl, rfl⟩ (by kernel_rfl) rfl
    (fun f fn hf hfn => by
      obtain rfl : f = 6 := Option.some.inj ((show Tryz.prog.funcNamed "wringer/wringerlaw10.MergePasses" = some 6 by kernel_rfl).symm.trans hf) |>.symm
      obtain rfl : fn = Tryz.f6 := (Option.some.inj (Tryz.func6.symm.trans hfn)).symm
      exact ⟨by kernel_rfl, fun j t ht => by
        rw [Tryz.params6] at ht
        have hm : t ∈ [3, 3] := by simpa using Array.mem_of_getElem? ht
        have hall : ([3, 3].all fun u => !Tryz.prog.wantsStandIn u) = true := by kernel_rfl
        exact (show Tryz.prog.wantsStandIn t = false by simpa using List.all_eq_true.1 hall t hm)⟩)
    (by kernel_rfl)
#print axioms proved
end Go.Proofs.YtmopegpkoedgbaaGreatDoor.mergePasses
