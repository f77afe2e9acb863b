/- Proved: 'wringerlaw31.AuditBack' answers true for every input, and leaves its arguments as they were. Condition: the ten package variables read as the program's own text lays them (tied). -/
import Derived.Test.YtcfnjpokfodmoaaGreatDoorM50
import Derived.Test.YtcfnjpokfodmoaaGreatDoorCards
import Derived.Test.YtcfnjpokfodmoaaGreatDoorTie
import Derived.SevenTiedAt
import Derived.ChangeSame
import Derived.ChangeVars
import Derived.JoinedOf
import Derived.Test.YtcfnjpokfodmoaaGreatDoorAudBackL
set_option maxRecDepth 100000
namespace Go.Proofs.YtcfnjpokfodmoaaGreatDoor.auditBack
open Go.ChangeShapes Go.WideShapes Go.ChangeAt Go.RowKit Go.Joins
open Go.ChangeMaps (open_string shut_string)
set_option linter.unusedVariables false
theorem lifted (os:Os) (started:os.Started) (H:Type) (enc:TypeId × Value → H) :
 ReturnsInHanded {} Tryz.checked os 9 .any (fun w args => (Rows.auditBackSpec.pre enc Tryz.prog Tryz.f9 [] false w args ∧ laidMetH Tryz.prog laidC w) ∧ sizedMet enc Tryz.prog Tryz.f9 (OpenSpec.ofChange Rows.auditBackSpec) false w args) (Rows.auditBackSpec.post enc Tryz.prog Tryz.f9 false true false false):=by
 refine returnsInHanded_of_change_and (C:=Tryz.checked) (X:=fun w _ => laidMetH Tryz.prog laidC w) (fun _ _ _ hh h => h.of_heap hh) own started (by kernel_rfl) Tryz.func9
  (ChangeSpec.witness_at (enc:=enc) (C:=Tryz.checked) (os:=os) (X:=fun w _ => laidMetH Tryz.prog laidC w) false (laidWorldC os) #[.string ⟨#[]⟩] 8 (laidWorldC_os os) (by kernel_rfl) (by kernel_rfl) (by kernel_rfl) (by kernel_rfl) (by kernel_rfl) (laidWorldC_met os _)) ?_
 intro W base args ds gs before hval0 hW hcnd _ hL _
 have hval:∀ (j:Nat) t v,Tryz.f9.params[j]? = some t → args[j]? = some v → Value.okWide Tryz.prog W .any base t v:=hval0
 have hW':=hW
 obtain ⟨p,q,hA0,hV,rfl,hfz,hnd⟩:=hW
 have hA:DataW.TrodAll enc Tryz.prog W 0 (fun _ => true) true Tryz.f9.params.toList args.toList ds p:=hA0
 rw [Tryz.params9] at hA hval
 obtain ⟨v0,vs0,d0,ds0,p0,q0,hargs,rfl,rfl,h0,r0⟩:=trodAll_cons hA
 obtain ⟨rfl,rfl,rfl⟩:=trodAll_nil r0
 obtain rfl:args = #[v0]:=by cases args;simp_all
 obtain ⟨rfl,rfl⟩:=trodVars_none hV
 have k0:=h0
 have lt0:∀ x ∈ p0,x.block < W.heap.size:=by obtain ⟨m,hm⟩:=k0;exact DataW.trod_lt m _ _ _ hm
 obtain ⟨s0,rfl,e0,f0,ws0⟩:=open_string Tryz.underlying9 (hval 0 9 v0 rfl rfl) h0
 obtain ⟨⟨q0,q1,hS⟩,hT,hP⟩:=laidC_gives hL
 clear hA0 hval0
 refine (back31_any s0 q0 q1 W hS hT hP).mono fun e W' ⟨he,bel⟩ => ?_
 subst he
 exact ⟨_,rfl,_,_,_,[],_,[],hW',trodAll_mk1 (shut_bool Tryz.underlying4 _),(trodAll_cons_mk (Below.trod laidOut (by kernel_rfl) (of_decide_eq_true (by kernel_rfl)) k0 bel lt0) trodAll_mk0),rfl,bel.frame _,fun h => by cases h⟩
theorem lifted2 (os:Os) (started:os.Started) (H:Type) (enc:TypeId × Value → H) :
 ReturnsInHanded {} Tryz.checked os 9 .any (fun w args => (Rows.auditBackSpec.pre enc Tryz.prog Tryz.f9 [] false w args ∧ laidMetH Tryz.prog laidC w) ∧ sizedMet enc Tryz.prog Tryz.f9 (OpenSpec.ofChange Rows.auditBackSpec) false w args) (Rows.auditBackSpec.post enc Tryz.prog Tryz.f9 false true false false) :=
 lifted os started H enc
theorem c1:joinedFacts Tryz.prog 9 Tryz.f9 Rows.auditBackSpec Rows.auditBackRow = true:=by kernel_rfl
theorem c2:Tryz.f9.isInstance Tryz.prog Rows.auditBackRow.origin Rows.auditBackRow.targs:=of_decide_eq_true (by kernel_rfl)
theorem c3:Tryz.f9.isWrapper Tryz.prog Rows.auditBackRow.wrapper Rows.auditBackRow.mainSum:=by unfold Func.isWrapper;first | (rw [if_pos (by decide +kernel)];kernel_rfl) | (rw [if_neg (by decide +kernel)];exact ⟨rfl,rfl⟩)
theorem c4:Tryz.prog.funcNamed Rows.auditBackRow.func = some 9:=by kernel_rfl
theorem c5 (os:Os) (started:os.Started) (H:Type) (enc:TypeId × Value → H):ReturnsInHanded Rows.auditBackRow.assume Tryz.checked os 9 .any (Rows.auditBackRow.pre enc Tryz.prog Tryz.f9 (OpenSpec.ofChange Rows.auditBackSpec)) (Rows.auditBackSpec.post enc Tryz.prog Tryz.f9 Rows.auditBackRow.apart Rows.auditBackRow.fresh Rows.auditBackRow.handsOn Rows.auditBackRow.again):=lifted2 os started H enc
theorem over:Rows.auditBackRow.holds Tryz.pinned (OpenSpec.ofChange Rows.auditBackSpec) :=
 OpenClaim.holds_of_wide 9 Tryz.f9 rfl rfl rfl rfl rfl rfl rfl ⟨rfl,rfl,rfl,rfl,rfl⟩ rfl rfl rfl rfl rfl c4 Tryz.func9 c1 c2 c3
  (fun os started H enc _ => c5 os started H enc)
theorem proved:Rows.AuditBackCardSaid :=
 Claim7.holds_tied_plain_at .later [] _ _ (true,"a9520826581b6e95d3c4a587d06670e371ff782440a44d3f8a2427efbf66b044") _
  over (fun _ h => by cases h) (by kernel_rfl) (fun _ h => by cases h) auditBack_row_tie rfl ⟨rfl,rfl⟩ (by kernel_rfl) rfl
  (fun f fn hf hfn => by
    obtain rfl:f = 9:=Option.some.inj ((show Tryz.prog.funcNamed "wringer/wringerlaw31.AuditBack" = some 9 by kernel_rfl).symm.trans hf) |>.symm
    obtain rfl:fn = Tryz.f9:=(Option.some.inj (Tryz.func9.symm.trans hfn)).symm
    exact ⟨by kernel_rfl,fun j t ht => by
     rw [Tryz.params9] at ht
     have hm:t ∈ [9]:=by simpa using Array.mem_of_getElem? ht
     have hall:([9].all fun u => !Tryz.prog.wantsStandIn u) = true:=by kernel_rfl
     exact (show Tryz.prog.wantsStandIn t = false by simpa using List.all_eq_true.1 hall t hm)⟩)
  (by kernel_rfl)
end Go.Proofs.YtcfnjpokfodmoaaGreatDoor.auditBack
