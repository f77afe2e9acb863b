/- Proved: 'wringerlaw31.AuditBest' answers true for every input, and leaves its arguments as they were. Condition: the ten package variables read as the program's own text lays them (tied). -/
import Derived.Test.YtcfnjpokfodmoaaGreatDoorM50
import Derived.Test.YtcfnjpokfodmoaaGreatDoorCards
import Derived.Test.YtcfnjpokfodmoaaGreatDoorTie
import Derived.SevenTiedAt
import Derived.ChangeSame
import Derived.ChangeVars
import Derived.JoinedOf
import Derived.Test.YtcfnjpokfodmoaaGreatDoorAudBestL
set_option maxRecDepth 100000
namespace Go.Proofs.YtcfnjpokfodmoaaGreatDoor.auditBest
open Go.ChangeShapes Go.WideShapes Go.ChangeAt Go.RowKit Go.Joins
open Go.ChangeMaps (open_string shut_string)
set_option linter.unusedVariables false
theorem lifted (os:Os) (started:os.Started) (H:Type) (enc:TypeId × Value → H) :
 ReturnsInHanded {} Tryz.checked os 10 .any (fun w args => (Rows.auditBestSpec.pre enc Tryz.prog Tryz.f10 [] false w args ∧ laidMetH Tryz.prog laidC w) ∧ sizedMet enc Tryz.prog Tryz.f10 (OpenSpec.ofChange Rows.auditBestSpec) false w args) (Rows.auditBestSpec.post enc Tryz.prog Tryz.f10 false true false false):=by
 refine returnsInHanded_of_change_and (C:=Tryz.checked) (X:=fun w _ => laidMetH Tryz.prog laidC w) (fun _ _ _ hh h => h.of_heap hh) own started (by kernel_rfl) Tryz.func10
  (ChangeSpec.witness_at (enc:=enc) (C:=Tryz.checked) (os:=os) (X:=fun w _ => laidMetH Tryz.prog laidC w) false (laidWorldC os) #[.string ⟨#[]⟩,.string ⟨#[]⟩] 8 (laidWorldC_os os) (by kernel_rfl) (by kernel_rfl) (by kernel_rfl) (by kernel_rfl) (by kernel_rfl) (laidWorldC_met os _)) ?_
 intro W base args ds gs before hval0 hW hcnd _ hL _
 have hval:∀ (j:Nat) t v,Tryz.f10.params[j]? = some t → args[j]? = some v → Value.okWide Tryz.prog W .any base t v:=hval0
 have hW':=hW
 obtain ⟨p,q,hA0,hV,rfl,hfz,hnd⟩:=hW
 have hA:DataW.TrodAll enc Tryz.prog W 0 (fun _ => true) true Tryz.f10.params.toList args.toList ds p:=hA0
 rw [Tryz.params10] at hA hval
 obtain ⟨v0,vs0,d0,ds0,p0,q0,hargs,rfl,rfl,h0,r0⟩:=trodAll_cons hA
 obtain ⟨v1,vs1,d1,ds1,p1,q1,rfl,rfl,rfl,h1,r1⟩:=trodAll_cons r0
 obtain ⟨rfl,rfl,rfl⟩:=trodAll_nil r1
 obtain rfl:args = #[v0,v1]:=by cases args;simp_all
 obtain ⟨rfl,rfl⟩:=trodVars_none hV
 have k0:=h0
 have lt0:∀ x ∈ p0,x.block < W.heap.size:=by obtain ⟨m,hm⟩:=k0;exact DataW.trod_lt m _ _ _ hm
 have k1:=h1
 have lt1:∀ x ∈ p1,x.block < W.heap.size:=by obtain ⟨m,hm⟩:=k1;exact DataW.trod_lt m _ _ _ hm
 obtain ⟨s0,rfl,e0,f0,ws0⟩:=open_string Tryz.underlying9 (hval 0 9 v0 rfl rfl) h0
 obtain ⟨s1,rfl,e1,f1,ws1⟩:=open_string Tryz.underlying9 (hval 1 9 v1 rfl rfl) h1
 obtain ⟨⟨q0,q1,hS⟩,hT,hP⟩:=laidC_gives hL
 clear hA0 hval0
 refine (best31_any s0 s1 q0 q1 W hS hT hP).mono fun e W' ⟨he,bel⟩ => ?_
 subst he
 exact ⟨_,rfl,_,_,_,[],_,[],hW',trodAll_mk1 (shut_bool Tryz.underlying4 _),(trodAll_cons_mk (Below.trod laidOut (by kernel_rfl) (of_decide_eq_true (by kernel_rfl)) k0 bel lt0) (trodAll_cons_mk (Below.trod laidOut (by kernel_rfl) (of_decide_eq_true (by kernel_rfl)) k1 bel lt1) trodAll_mk0)),rfl,bel.frame _,fun h => by cases h⟩
theorem lifted2 (os:Os) (started:os.Started) (H:Type) (enc:TypeId × Value → H) :
 ReturnsInHanded {} Tryz.checked os 10 .any (fun w args => (Rows.auditBestSpec.pre enc Tryz.prog Tryz.f10 [] false w args ∧ laidMetH Tryz.prog laidC w) ∧ sizedMet enc Tryz.prog Tryz.f10 (OpenSpec.ofChange Rows.auditBestSpec) false w args) (Rows.auditBestSpec.post enc Tryz.prog Tryz.f10 false true false false) :=
 lifted os started H enc
theorem c1:joinedFacts Tryz.prog 10 Tryz.f10 Rows.auditBestSpec Rows.auditBestRow = true:=by kernel_rfl
theorem c2:Tryz.f10.isInstance Tryz.prog Rows.auditBestRow.origin Rows.auditBestRow.targs:=of_decide_eq_true (by kernel_rfl)
theorem c3:Tryz.f10.isWrapper Tryz.prog Rows.auditBestRow.wrapper Rows.auditBestRow.mainSum:=by unfold Func.isWrapper;first | (rw [if_pos (by decide +kernel)];kernel_rfl) | (rw [if_neg (by decide +kernel)];exact ⟨rfl,rfl⟩)
theorem c4:Tryz.prog.funcNamed Rows.auditBestRow.func = some 10:=by kernel_rfl
theorem c5 (os:Os) (started:os.Started) (H:Type) (enc:TypeId × Value → H):ReturnsInHanded Rows.auditBestRow.assume Tryz.checked os 10 .any (Rows.auditBestRow.pre enc Tryz.prog Tryz.f10 (OpenSpec.ofChange Rows.auditBestSpec)) (Rows.auditBestSpec.post enc Tryz.prog Tryz.f10 Rows.auditBestRow.apart Rows.auditBestRow.fresh Rows.auditBestRow.handsOn Rows.auditBestRow.again):=lifted2 os started H enc
theorem over:Rows.auditBestRow.holds Tryz.pinned (OpenSpec.ofChange Rows.auditBestSpec) :=
 OpenClaim.holds_of_wide 10 Tryz.f10 rfl rfl rfl rfl rfl rfl rfl ⟨rfl,rfl,rfl,rfl,rfl⟩ rfl rfl rfl rfl rfl c4 Tryz.func10 c1 c2 c3
  (fun os started H enc _ => c5 os started H enc)
theorem proved:Rows.AuditBestCardSaid :=
 Claim7.holds_tied_plain_at .later [] _ _ (true,"a9520826581b6e95d3c4a587d06670e371ff782440a44d3f8a2427efbf66b044") _
  over (fun _ h => by cases h) (by kernel_rfl) (fun _ h => by cases h) auditBest_row_tie rfl ⟨rfl,rfl⟩ (by kernel_rfl) rfl
  (fun f fn hf hfn => by
    obtain rfl:f = 10:=Option.some.inj ((show Tryz.prog.funcNamed "wringer/wringerlaw31.AuditBest" = some 10 by kernel_rfl).symm.trans hf) |>.symm
    obtain rfl:fn = Tryz.f10:=(Option.some.inj (Tryz.func10.symm.trans hfn)).symm
    exact ⟨by kernel_rfl,fun j t ht => by
     rw [Tryz.params10] at ht
     have hm:t ∈ [9,9]:=by simpa using Array.mem_of_getElem? ht
     have hall:([9,9].all fun u => !Tryz.prog.wantsStandIn u) = true:=by kernel_rfl
     exact (show Tryz.prog.wantsStandIn t = false by simpa using List.all_eq_true.1 hall t hm)⟩)
  (by kernel_rfl)
end Go.Proofs.YtcfnjpokfodmoaaGreatDoor.auditBest
