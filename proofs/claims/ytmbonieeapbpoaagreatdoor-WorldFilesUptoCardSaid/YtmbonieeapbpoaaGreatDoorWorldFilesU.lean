/- Proved: 'wringerlaw29.WorldFiles' answers true for every input of bulk at most 1048576, and leaves its arguments as they were. Conditions: the bound; the listed package variables read as the program's own text lays them (tied). -/
import Derived.Test.YtmbonieeapbpoaaGreatDoorLawW
import Derived.Test.YtmbonieeapbpoaaGreatDoorTiedW
import Derived.Test.YtmbonieeapbpoaaGreatDoorCards
import Derived.Test.YtmbonieeapbpoaaGreatDoorWorldFilesKf
import Derived.Test.YtmbonieeapbpoaaGreatDoorWorldFilesKg
import Derived.Test.YtmbonieeapbpoaaGreatDoorTieWH
import Derived.SevenTiedAt
import Derived.ChangeSame
import Derived.ChangeVars
import Derived.JoinedOf
import Derived.Test.YtmbonieeapbpoaaGreatDoorWlK
namespace Go.Proofs.YtmbonieeapbpoaaGreatDoor.worldFiles
open Go.ChangeShapes Go.WideShapes Go.ChangeAt Go.RowKit Go.Joins
open Go.ChangeMaps (open_string shut_string)
set_option linter.unusedVariables false

set_option maxRecDepth 100000 in
theorem reads (os : Os) {H : Type} (enc : TypeId × Value → H) : ∃ places, DataW.whole enc Tryz.prog ((laidWorldW os).forCall (fun _ _ => 0) ⟨#[], #[.agg #[.int .i64 0, .slice none 0 0, .slice none 0 0, .int .i64 0, .bool false, .int .i64 0], .slice none 0 0], []⟩).memory Tryz.f4.params.toList Rows.worldFilesSpec.vars false (#[.agg #[.int .i64 0, .slice none 0 0, .slice none 0 0, .int .i64 0, .bool false, .int .i64 0], .slice none 0 0] : Array Value).toList 8 = some ([.agg [.agg [.lit (.int .i64 0), .nil, .nil, .lit (.int .i64 0), .lit (.bool false)], .lit (.int .i64 0)], .nil], [], places) :=
  ⟨[], by kernel_rfl⟩
set_option maxRecDepth 100000 in
theorem lifted (os : Os) (started : os.Started) (H : Type) (enc : TypeId × Value → H) (F : Stop.Interp) :
    ReturnsInHanded {} Tryz.checked os 4 .any ((Rows.OpenSpec.upto Rows.worldFilesSpec).preRow enc Tryz.prog Tryz.f4 Rows.worldFilesUptoRow.domain false Rows.worldFilesUptoRow.laid) (((Rows.OpenSpec.upto Rows.worldFilesSpec).at F).post enc Tryz.prog Tryz.f4 false true false false) := by
  obtain ⟨places, hx⟩ := reads os enc
  refine returnsInHanded_of_row (C := Tryz.checked) (s := Rows.OpenSpec.upto Rows.worldFilesSpec) own started (by kernel_rfl) Tryz.func4
    (witness_row_at (enc := enc) (C := Tryz.checked) false (laidWorldW os) #[.agg #[.int .i64 0, .slice none 0 0, .slice none 0 0, .int .i64 0, .bool false, .int .i64 0], .slice none 0 0] (laidWorldW_os os) (by kernel_rfl) (by kernel_rfl) (by kernel_rfl)
      (OpenSpec.preRow_of_cond 8 hx (by kernel_rfl) (fun k hk => by cases hk; kernel_rfl) (by kernel_rfl) (laidWorldW_met os _))) ?_
  intro W base args ds gs before hval0 hW _ hcond _ hL0 hSh _
  have hL : laidMetH Tryz.prog laidW W := hL0
  have hk : Rows.uptoSmall H (ds ++ gs) = true := hcond _ rfl
  have hval : ∀ (j : Nat) t v, Tryz.f4.params[j]? = some t → args[j]? = some v → Value.okWide Tryz.prog W .any base t v := hval0
  have hW' := hW
  obtain ⟨p, q, hA0, hV, rfl, hfz, hnd⟩ := hW
  have hA : DataW.TrodAll enc Tryz.prog W 0 (fun _ => true) true Tryz.f4.params.toList args.toList ds p := hA0
  rw [Tryz.params4] at hA hval
  obtain ⟨v0, vs0, d0, ds0, p0, q0, hargs, rfl, rfl, h0, r0⟩ := trodAll_cons hA
  obtain ⟨v1, vs1, d1, ds1, p1, q1, rfl, rfl, rfl, h1, r1⟩ := trodAll_cons r0
  obtain ⟨rfl, rfl, rfl⟩ := trodAll_nil r1
  obtain rfl : args = #[v0, v1] := by cases args; simp_all
  obtain ⟨rfl, rfl⟩ := trodVars_none hV
  have k0 := h0
  have lt0 : ∀ x ∈ p0, x.block < W.heap.size := by obtain ⟨m, hm⟩ := k0; exact DataW.trod_lt m _ _ _ hm
  have k1 := h1
  have lt1 : ∀ x ∈ p1, x.block < W.heap.size := by obtain ⟨m, hm⟩ := k1; exact DataW.trod_lt m _ _ _ hm
  obtain ⟨g0, b0, hr0, hz0⟩ := open_worldV (hval 0 27 v0 rfl rfl) h0 (bulk_in hk (by simp))
  obtain ⟨l1, A1, c1, rfl, hr1, hb1⟩ := open_keepV (hval 1 39 v1 rfl rfl) h1
  have bu1 : l1.length + 1 ≤ 1048576 := Nat.le_trans hb1 (bulk_in hk (by simp))
  clear hA0 hval0
  refine (worldFiles_any v0 g0 b0 l1 A1 c1 W hr0.r hz0 hr1 (by omega)).mono fun e W' ⟨he, bel⟩ => ?_
  subst he
  exact ⟨_, rfl, _, _, _, [], _, [], hW', trodAll_mk1 (shut_bool Tryz.underlying4 _), (trodAll_cons_mk (Below.trod laidOut (by kernel_rfl) (of_decide_eq_true (by kernel_rfl)) k0 bel lt0) (trodAll_cons_mk (Below.trod laidOut (by kernel_rfl) (of_decide_eq_true (by kernel_rfl)) k1 bel lt1) trodAll_mk0)), rfl, bel.frame _, fun h => by cases h⟩

set_option maxRecDepth 100000 in
theorem lifted2 (os : Os) (started : os.Started) (H : Type) (enc : TypeId × Value → H) (F : Stop.Interp) :
    ReturnsInHanded {} Tryz.checked os 4 .any (fun w args => ((Rows.OpenSpec.upto Rows.worldFilesSpec).pre enc Tryz.prog Tryz.f4 [] false w args ∧ laidMetH Tryz.prog laidW w) ∧ sizedMet enc Tryz.prog Tryz.f4 (Rows.OpenSpec.upto Rows.worldFilesSpec) false w args) (((Rows.OpenSpec.upto Rows.worldFilesSpec).at F).post enc Tryz.prog Tryz.f4 false true false false) :=
  lifted os started H enc F
theorem c2 : Tryz.f4.isInstance Tryz.prog Rows.worldFilesUptoRow.origin Rows.worldFilesUptoRow.targs := of_decide_eq_true (by kernel_rfl)
theorem c3 : Tryz.f4.isWrapper Tryz.prog Rows.worldFilesUptoRow.wrapper Rows.worldFilesUptoRow.mainSum := by unfold Func.isWrapper; first | (rw [if_pos (by decide +kernel)]; kernel_rfl) | (rw [if_neg (by decide +kernel)]; exact ⟨rfl, rfl⟩)
theorem c4 : Tryz.prog.funcNamed Rows.worldFilesUptoRow.func = some 4 := kFunc
theorem c5 (os : Os) (started : os.Started) (H : Type) (enc : TypeId × Value → H) (F : Stop.Interp) : ReturnsInHanded Rows.worldFilesUptoRow.assume Tryz.checked os 4 .any (Rows.worldFilesUptoRow.pre enc Tryz.prog Tryz.f4 (Rows.OpenSpec.upto Rows.worldFilesSpec)) (((Rows.OpenSpec.upto Rows.worldFilesSpec).at F).post enc Tryz.prog Tryz.f4 Rows.worldFilesUptoRow.apart Rows.worldFilesUptoRow.fresh Rows.worldFilesUptoRow.handsOn Rows.worldFilesUptoRow.again) := lifted2 os started H enc F
theorem over : Rows.worldFilesUptoRow.holds Tryz.pinned (Rows.OpenSpec.upto Rows.worldFilesSpec) :=
  OpenClaim.holds_of_cond 4 Tryz.f4 rfl rfl rfl rfl rfl rfl rfl ⟨rfl, rfl, rfl, rfl, rfl⟩ rfl rfl rfl rfl rfl c4 Tryz.func4 c1 c2 c3
    (fun os started H enc _ F => c5 os started H enc F)
theorem proved : Rows.WorldFilesUptoCardSaid :=
  Claim7.holds_tied_plain_at .later [] _ _ _ _
    over (fun _ h => by cases h) (by kernel_rfl) (fun _ h => by cases h) worldFilesUpto_row_tie rfl ⟨rfl, rfl⟩ (by kernel_rfl) rfl
    (fun f fn hf hfn => by
      obtain rfl : f = 4 := Option.some.inj (kFunc.symm.trans hf) |>.symm
      obtain rfl : fn = Tryz.f4 := (Option.some.inj (Tryz.func4.symm.trans hfn)).symm
      exact ⟨by kernel_rfl, fun j t ht => by
        rw [Tryz.params4] at ht
        have hm : t ∈ [27, 39] := by simpa using Array.mem_of_getElem? ht
        have hall : ([27, 39].all fun u => !Tryz.prog.wantsStandIn u) = true := by kernel_rfl
        exact (show Tryz.prog.wantsStandIn t = false by simpa using List.all_eq_true.1 hall t hm)⟩)
    kGoesBy
#print axioms proved
end Go.Proofs.YtmbonieeapbpoaaGreatDoor.worldFiles
