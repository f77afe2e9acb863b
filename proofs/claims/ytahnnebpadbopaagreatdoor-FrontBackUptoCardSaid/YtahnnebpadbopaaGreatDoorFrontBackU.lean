/- Proved: 'wringerlaw32.FrontBack' answers true for every input of bulk at most 1048576, and leaves its arguments as they were. Conditions: the bound; the listed package variables read as the program's own text lays them (tied). -/
import Derived.Test.YtahnnebpadbopaaGreatDoorM31
import Derived.Test.YtahnnebpadbopaaGreatDoorM32
import Derived.Test.YtahnnebpadbopaaGreatDoorCards
import Derived.Test.YtahnnebpadbopaaGreatDoorTiedF
import Derived.Test.YtahnnebpadbopaaGreatDoorFrontBackKf
import Derived.Test.YtahnnebpadbopaaGreatDoorFrontBackKg
import Derived.Test.YtahnnebpadbopaaGreatDoorTieH
import Derived.SevenTiedAt
import Derived.ChangeSame
import Derived.ChangeVars
import Derived.JoinedOf
namespace Go.Proofs.YtahnnebpadbopaaGreatDoor.frontBack
open Go.ChangeShapes Go.WideShapes Go.ChangeAt Go.RowKit Go.Joins
open Go.ChangeMaps (open_string shut_string)
set_option linter.unusedVariables false
set_option linter.unusedSimpArgs false

set_option maxRecDepth 100000 in
theorem reads (os : Os) {H : Type} (enc : TypeId × Value → H) : ∃ places, DataW.whole enc Tryz.prog ((laidWorldF os).forCall (fun _ _ => 0) ⟨#[], #[.string ⟨#[]⟩, .slice none 0 0, .string ⟨#[]⟩, .string ⟨#[]⟩], []⟩).memory Tryz.f5.params.toList Rows.frontBackSpec.vars false (#[.string ⟨#[]⟩, .slice none 0 0, .string ⟨#[]⟩, .string ⟨#[]⟩] : Array Value).toList 8 = some ([.lit (.string []), .nil, .lit (.string []), .lit (.string [])], [], places) :=
  ⟨[], by kernel_rfl⟩
set_option maxRecDepth 100000 in
theorem lifted (os : Os) (started : os.Started) (H : Type) (enc : TypeId × Value → H) (F : Stop.Interp) :
    ReturnsInHanded {} Tryz.checked os 5 .any ((Rows.OpenSpec.upto Rows.frontBackSpec).preRow enc Tryz.prog Tryz.f5 Rows.frontBackUptoRow.domain false Rows.frontBackUptoRow.laid) (((Rows.OpenSpec.upto Rows.frontBackSpec).at F).post enc Tryz.prog Tryz.f5 false true false false) := by
  obtain ⟨places, hx⟩ := reads os enc
  refine returnsInHanded_of_row (C := Tryz.checked) (s := Rows.OpenSpec.upto Rows.frontBackSpec) own started (by kernel_rfl) Tryz.func5
    (witness_row_at (enc := enc) (C := Tryz.checked) false (laidWorldF os) #[.string ⟨#[]⟩, .slice none 0 0, .string ⟨#[]⟩, .string ⟨#[]⟩] (laidWorldF_os os) (by kernel_rfl) (by kernel_rfl) (by kernel_rfl)
      (OpenSpec.preRow_of_cond 8 hx (by kernel_rfl) (fun k hk => by cases hk; kernel_rfl) (by kernel_rfl) (laidWorldF_met os _))) ?_
  intro W base args ds gs before hval0 hW _ hcond _ hL0 hSh _
  have hL : laidMetH Tryz.prog laidF W := hL0
  have hk : Rows.uptoSmall H (ds ++ gs) = true := hcond _ rfl
  have hval : ∀ (j : Nat) t v, Tryz.f5.params[j]? = some t → args[j]? = some v → Value.okWide Tryz.prog W .any base t v := hval0
  have hW' := hW
  obtain ⟨p, q, hA0, hV, rfl, hfz, hnd⟩ := hW
  have hA : DataW.TrodAll enc Tryz.prog W 0 (fun _ => true) true Tryz.f5.params.toList args.toList ds p := hA0
  rw [Tryz.params5] at hA hval
  obtain ⟨v0, vs0, d0, ds0, p0, q0, hargs, rfl, rfl, h0, r0⟩ := trodAll_cons hA
  obtain ⟨v1, vs1, d1, ds1, p1, q1, rfl, rfl, rfl, h1, r1⟩ := trodAll_cons r0
  obtain ⟨v2, vs2, d2, ds2, p2, q2, rfl, rfl, rfl, h2, r2⟩ := trodAll_cons r1
  obtain ⟨v3, vs3, d3, ds3, p3, q3, rfl, rfl, rfl, h3, r3⟩ := trodAll_cons r2
  obtain ⟨rfl, rfl, rfl⟩ := trodAll_nil r3
  obtain rfl : args = #[v0, v1, v2, v3] := by cases args; simp_all
  obtain ⟨rfl, rfl⟩ := trodVars_none hV
  have k0 := h0
  have lt0 : ∀ x ∈ p0, x.block < W.heap.size := by obtain ⟨m, hm⟩ := k0; exact DataW.trod_lt m _ _ _ hm
  have k1 := h1
  have lt1 : ∀ x ∈ p1, x.block < W.heap.size := by obtain ⟨m, hm⟩ := k1; exact DataW.trod_lt m _ _ _ hm
  have k2 := h2
  have lt2 : ∀ x ∈ p2, x.block < W.heap.size := by obtain ⟨m, hm⟩ := k2; exact DataW.trod_lt m _ _ _ hm
  have k3 := h3
  have lt3 : ∀ x ∈ p3, x.block < W.heap.size := by obtain ⟨m, hm⟩ := k3; exact DataW.trod_lt m _ _ _ hm
  obtain ⟨s0, rfl, e0, f0, ws0⟩ := open_string Tryz.underlying9 (hval 0 9 v0 rfl rfl) h0
  have bu0 : s0.size ≤ 1048576 := bulk_str hk (by rw [← e0]; simp)
  obtain ⟨l1, A1, c1, rfl, hr1, hb1⟩ := open_stepsV (hval 1 22 v1 rfl rfl) h1
  have bu1 : wtS l1 ≤ 1048576 := Nat.le_trans hb1 (bulk_in hk (by simp))
  obtain ⟨s2, rfl, e2, f2, ws2⟩ := open_string Tryz.underlying9 (hval 2 9 v2 rfl rfl) h2
  have bu2 : s2.size ≤ 1048576 := bulk_str hk (by rw [← e2]; simp)
  obtain ⟨s3, rfl, e3, f3, ws3⟩ := open_string Tryz.underlying9 (hval 3 9 v3 rfl rfl) h3
  have bu3 : s3.size ≤ 1048576 := bulk_str hk (by rw [← e3]; simp)
  have hLay : Lay W := laidF_gives hL hSh
  clear hA0 hval0
  refine (frontBack_any s0 l1 A1 c1 s2 s3 W bu0 bu2 bu3 hr1 bu1 hLay).mono fun e W' ⟨he, bel⟩ => ?_
  subst he
  exact ⟨_, rfl, _, _, _, [], _, [], hW', trodAll_mk1 (shut_bool Tryz.underlying4 _), (trodAll_cons_mk (Below.trod laidOut (by kernel_rfl) (of_decide_eq_true (by kernel_rfl)) k0 bel lt0) (trodAll_cons_mk (Below.trod laidOut (by kernel_rfl) (of_decide_eq_true (by kernel_rfl)) k1 bel lt1) (trodAll_cons_mk (Below.trod laidOut (by kernel_rfl) (of_decide_eq_true (by kernel_rfl)) k2 bel lt2) (trodAll_cons_mk (Below.trod laidOut (by kernel_rfl) (of_decide_eq_true (by kernel_rfl)) k3 bel lt3) trodAll_mk0)))), rfl, bel.frame _, fun h => by cases h⟩

set_option maxRecDepth 100000 in
theorem lifted2 (os : Os) (started : os.Started) (H : Type) (enc : TypeId × Value → H) (F : Stop.Interp) :
    ReturnsInHanded {} Tryz.checked os 5 .any (fun w args => ((Rows.OpenSpec.upto Rows.frontBackSpec).pre enc Tryz.prog Tryz.f5 [] false w args ∧ laidMetH Tryz.prog laidF w) ∧ sizedMet enc Tryz.prog Tryz.f5 (Rows.OpenSpec.upto Rows.frontBackSpec) false w args) (((Rows.OpenSpec.upto Rows.frontBackSpec).at F).post enc Tryz.prog Tryz.f5 false true false false) :=
  lifted os started H enc F
theorem c2 : Tryz.f5.isInstance Tryz.prog Rows.frontBackUptoRow.origin Rows.frontBackUptoRow.targs := of_decide_eq_true (by kernel_rfl)
theorem c3 : Tryz.f5.isWrapper Tryz.prog Rows.frontBackUptoRow.wrapper Rows.frontBackUptoRow.mainSum := by unfold Func.isWrapper; first | (rw [if_pos (by decide +kernel)]; kernel_rfl) | (rw [if_neg (by decide +kernel)]; exact ⟨rfl, rfl⟩)
theorem c4 : Tryz.prog.funcNamed Rows.frontBackUptoRow.func = some 5 := kFunc
theorem c5 (os : Os) (started : os.Started) (H : Type) (enc : TypeId × Value → H) (F : Stop.Interp) : ReturnsInHanded Rows.frontBackUptoRow.assume Tryz.checked os 5 .any (Rows.frontBackUptoRow.pre enc Tryz.prog Tryz.f5 (Rows.OpenSpec.upto Rows.frontBackSpec)) (((Rows.OpenSpec.upto Rows.frontBackSpec).at F).post enc Tryz.prog Tryz.f5 Rows.frontBackUptoRow.apart Rows.frontBackUptoRow.fresh Rows.frontBackUptoRow.handsOn Rows.frontBackUptoRow.again) := lifted2 os started H enc F
theorem over : Rows.frontBackUptoRow.holds Tryz.pinned (Rows.OpenSpec.upto Rows.frontBackSpec) :=
  OpenClaim.holds_of_cond 5 Tryz.f5 rfl rfl rfl rfl rfl rfl rfl ⟨rfl, rfl, rfl, rfl, rfl⟩ rfl rfl rfl rfl rfl c4 Tryz.func5 c1 c2 c3
    (fun os started H enc _ F => c5 os started H enc F)
theorem proved : Rows.FrontBackUptoCardSaid :=
  Claim7.holds_tied_plain_at .later [] _ _ _ _
    over (fun _ h => by cases h) (by kernel_rfl) (fun _ h => by cases h) frontBackUpto_row_tie rfl ⟨rfl, rfl⟩ (by kernel_rfl) rfl
    (fun f fn hf hfn => by
      obtain rfl : f = 5 := Option.some.inj (kFunc.symm.trans hf) |>.symm
      obtain rfl : fn = Tryz.f5 := (Option.some.inj (Tryz.func5.symm.trans hfn)).symm
      exact ⟨by kernel_rfl, fun j t ht => by
        rw [Tryz.params5] at ht
        have hm : t ∈ [9, 22, 9, 9] := by simpa using Array.mem_of_getElem? ht
        have hall : ([9, 22, 9, 9].all fun u => !Tryz.prog.wantsStandIn u) = true := by kernel_rfl
        exact (show Tryz.prog.wantsStandIn t = false by simpa using List.all_eq_true.1 hall t hm)⟩)
    kGoesBy
#print axioms proved
end Go.Proofs.YtahnnebpadbopaaGreatDoor.frontBack
