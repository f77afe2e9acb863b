/- Proved: 'wringerlaw24.BoxBuilds' answers true for every input of bulk at most 1048576, and leaves its arguments as they were. Conditions: the bound; the three package variables read as the program's own text lays them (tied). -/
import Derived.Test.YtcfnjpokfodmoaaGreatDoorM36
import Derived.Test.YtcfnjpokfodmoaaGreatDoorM49
import Derived.Test.YtcfnjpokfodmoaaGreatDoorCards
import Derived.Test.YtcfnjpokfodmoaaGreatDoorTie
import Derived.SevenTiedAt
import Derived.ChangeSame
import Derived.ChangeVars
import Derived.JoinedOf
set_option maxRecDepth 100000
namespace Go.Proofs.YtcfnjpokfodmoaaGreatDoor.boxBuilds
open Go.ChangeShapes Go.WideShapes Go.ChangeAt Go.RowKit Go.Joins
open Go.ChangeMaps (open_string shut_string)
set_option linter.unusedVariables false
theorem reads (os:Os) {H:Type} (enc:TypeId × Value → H):∃ places,DataW.whole enc Tryz.prog ((laidWorldT os).forCall (fun _ _ => 0) ⟨#[],#[.string ⟨#[]⟩,.agg #[.int .u64 0,.int .u64 0,.int .u32 0,.int .u64 0,.int .u64 0],.agg #[.string ⟨#[]⟩,.int .i64 0]],[]⟩).memory Tryz.f3.params.toList Rows.boxBuildsSpec.vars false (#[.string ⟨#[]⟩,.agg #[.int .u64 0,.int .u64 0,.int .u32 0,.int .u64 0,.int .u64 0],.agg #[.string ⟨#[]⟩,.int .i64 0]]:Array Value).toList 8 = some ([.lit (.string []),.agg [.lit (.int .u64 0),.lit (.int .u64 0),.lit (.int .u32 0),.lit (.int .u64 0),.lit (.int .u64 0)],.agg [.lit (.string []),.lit (.int .i64 0)]],[],places) :=
 ⟨[],by kernel_rfl⟩
theorem lifted (os:Os) (started:os.Started) (H:Type) (enc:TypeId × Value → H) (F:Stop.Interp) :
 ReturnsInHanded {} Tryz.checked os 3 .any ((Rows.OpenSpec.upto Rows.boxBuildsSpec).preRow enc Tryz.prog Tryz.f3 Rows.boxBuildsUptoRow.domain false Rows.boxBuildsUptoRow.laid) (((Rows.OpenSpec.upto Rows.boxBuildsSpec).at F).post enc Tryz.prog Tryz.f3 false true false false):=by
 obtain ⟨places,hx⟩:=reads os enc
 refine returnsInHanded_of_row (C:=Tryz.checked) (s:=Rows.OpenSpec.upto Rows.boxBuildsSpec) own started (by kernel_rfl) Tryz.func3
  (witness_row_at (enc:=enc) (C:=Tryz.checked) false (laidWorldT os) #[.string ⟨#[]⟩,.agg #[.int .u64 0,.int .u64 0,.int .u32 0,.int .u64 0,.int .u64 0],.agg #[.string ⟨#[]⟩,.int .i64 0]] rfl (by kernel_rfl) (by kernel_rfl) (by kernel_rfl)
    (OpenSpec.preRow_of_cond 8 hx (by kernel_rfl) (fun k hk => by cases hk;kernel_rfl) (by kernel_rfl) (laidWorldT_met os _))) ?_
 intro W base args ds gs before hval0 hW _ hcond _ hL0 _ _
 have hL:laidMetH Tryz.prog laidB W:=hL0
 have hk:Rows.uptoSmall H (ds ++ gs) = true:=hcond _ rfl
 have hval:∀ (j:Nat) t v,Tryz.f3.params[j]? = some t → args[j]? = some v → Value.okWide Tryz.prog W .any base t v:=hval0
 have hW':=hW
 obtain ⟨p,q,hA0,hV,rfl,hfz,hnd⟩:=hW
 have hA:DataW.TrodAll enc Tryz.prog W 0 (fun _ => true) true Tryz.f3.params.toList args.toList ds p:=hA0
 rw [Tryz.params3] at hA hval
 obtain ⟨v0,vs0,d0,ds0,p0,q0,hargs,rfl,rfl,h0,r0⟩:=trodAll_cons hA
 obtain ⟨v1,vs1,d1,ds1,p1,q1,rfl,rfl,rfl,h1,r1⟩:=trodAll_cons r0
 obtain ⟨v2,vs2,d2,ds2,p2,q2,rfl,rfl,rfl,h2,r2⟩:=trodAll_cons r1
 obtain ⟨rfl,rfl,rfl⟩:=trodAll_nil r2
 obtain rfl:args = #[v0,v1,v2]:=by cases args;simp_all
 obtain ⟨rfl,rfl⟩:=trodVars_none hV
 have k0:=h0
 have lt0:∀ x ∈ p0,x.block < W.heap.size:=by obtain ⟨m,hm⟩:=k0;exact DataW.trod_lt m _ _ _ hm
 have k1:=h1
 have lt1:∀ x ∈ p1,x.block < W.heap.size:=by obtain ⟨m,hm⟩:=k1;exact DataW.trod_lt m _ _ _ hm
 have k2:=h2
 have lt2:∀ x ∈ p2,x.block < W.heap.size:=by obtain ⟨m,hm⟩:=k2;exact DataW.trod_lt m _ _ _ hm
 obtain ⟨s0,rfl,e0,f0,ws0⟩:=open_string Tryz.underlying9 (hval 0 9 v0 rfl rfl) h0
 have bu0:s0.size ≤ 1048576:=bulk_str hk (by rw [← e0];simp)
 obtain ⟨g1,rfl,hs1⟩:=open_head (hval 1 25 v1 rfl rfl) h1
 obtain ⟨s2,n2,y2,rfl,e2,nr2⟩:=open_bstrD (hval 2 27 v2 rfl rfl) h2
 have bu2:s2.size ≤ 1048576:=bulk_bstr hk (by rw [← e2];simp)
 obtain ⟨⟨q0,q1,hS⟩,hT⟩:=sent2_of_laid hL
 clear hA0 hval0
 refine (bbuilds_any s0 g1 s2 n2 q0 q1 W bu0 hs1 nr2 (by omega) hS hT).mono fun e W' ⟨he,bel⟩ => ?_
 subst he
 exact ⟨_,rfl,_,_,_,[],_,[],hW',trodAll_mk1 (shut_bool Tryz.underlying4 _),(trodAll_cons_mk (Below.trod laidOut (by kernel_rfl) (of_decide_eq_true (by kernel_rfl)) k0 bel lt0) (trodAll_cons_mk (Below.trod laidOut (by kernel_rfl) (of_decide_eq_true (by kernel_rfl)) k1 bel lt1) (trodAll_cons_mk (Below.trod laidOut (by kernel_rfl) (of_decide_eq_true (by kernel_rfl)) k2 bel lt2) trodAll_mk0))),rfl,bel.frame _,fun h => by cases h⟩
theorem lifted2 (os:Os) (started:os.Started) (H:Type) (enc:TypeId × Value → H) (F:Stop.Interp) :
 ReturnsInHanded {} Tryz.checked os 3 .any (fun w args => ((Rows.OpenSpec.upto Rows.boxBuildsSpec).pre enc Tryz.prog Tryz.f3 [] false w args ∧ laidMetH Tryz.prog laidB w) ∧ sizedMet enc Tryz.prog Tryz.f3 (Rows.OpenSpec.upto Rows.boxBuildsSpec) false w args) (((Rows.OpenSpec.upto Rows.boxBuildsSpec).at F).post enc Tryz.prog Tryz.f3 false true false false) :=
 lifted os started H enc F
theorem c1:joinedFacts Tryz.prog 3 Tryz.f3 (Rows.OpenSpec.upto Rows.boxBuildsSpec).bare Rows.boxBuildsUptoRow = true:=by kernel_rfl
theorem c2:Tryz.f3.isInstance Tryz.prog Rows.boxBuildsUptoRow.origin Rows.boxBuildsUptoRow.targs:=of_decide_eq_true (by kernel_rfl)
theorem c3:Tryz.f3.isWrapper Tryz.prog Rows.boxBuildsUptoRow.wrapper Rows.boxBuildsUptoRow.mainSum:=by unfold Func.isWrapper;first | (rw [if_pos (by decide +kernel)];kernel_rfl) | (rw [if_neg (by decide +kernel)];exact ⟨rfl,rfl⟩)
theorem c4:Tryz.prog.funcNamed Rows.boxBuildsUptoRow.func = some 3:=by kernel_rfl
theorem c5 (os:Os) (started:os.Started) (H:Type) (enc:TypeId × Value → H) (F:Stop.Interp):ReturnsInHanded Rows.boxBuildsUptoRow.assume Tryz.checked os 3 .any (Rows.boxBuildsUptoRow.pre enc Tryz.prog Tryz.f3 (Rows.OpenSpec.upto Rows.boxBuildsSpec)) (((Rows.OpenSpec.upto Rows.boxBuildsSpec).at F).post enc Tryz.prog Tryz.f3 Rows.boxBuildsUptoRow.apart Rows.boxBuildsUptoRow.fresh Rows.boxBuildsUptoRow.handsOn Rows.boxBuildsUptoRow.again):=lifted2 os started H enc F
theorem over:Rows.boxBuildsUptoRow.holds Tryz.pinned (Rows.OpenSpec.upto Rows.boxBuildsSpec) :=
 OpenClaim.holds_of_cond 3 Tryz.f3 rfl rfl rfl rfl rfl rfl rfl ⟨rfl,rfl,rfl,rfl,rfl⟩ rfl rfl rfl rfl rfl c4 Tryz.func3 c1 c2 c3
  (fun os started H enc _ F => c5 os started H enc F)
theorem proved:Rows.BoxBuildsUptoCardSaid :=
 Claim7.holds_tied_plain_at .later [] _ _ _ _
  over (fun _ h => by cases h) (by kernel_rfl) (fun _ h => by cases h) boxBuildsUpto_row_tie rfl ⟨rfl,rfl⟩ (by kernel_rfl) rfl
  (fun f fn hf hfn => by
    obtain rfl:f = 3:=Option.some.inj ((show Tryz.prog.funcNamed "wringer/wringerlaw24.BoxBuilds" = some 3 by kernel_rfl).symm.trans hf) |>.symm
    obtain rfl:fn = Tryz.f3:=(Option.some.inj (Tryz.func3.symm.trans hfn)).symm
    exact ⟨by kernel_rfl,fun j t ht => by
     rw [Tryz.params3] at ht
     have hm:t ∈ [9,25,27]:=by simpa using Array.mem_of_getElem? ht
     have hall:([9,25,27].all fun u => !Tryz.prog.wantsStandIn u) = true:=by kernel_rfl
     exact (show Tryz.prog.wantsStandIn t = false by simpa using List.all_eq_true.1 hall t hm)⟩)
  (by kernel_rfl)
end Go.Proofs.YtcfnjpokfodmoaaGreatDoor.boxBuilds
