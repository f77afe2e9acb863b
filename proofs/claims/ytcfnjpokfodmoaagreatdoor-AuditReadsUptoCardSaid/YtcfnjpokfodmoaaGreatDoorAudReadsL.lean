/- Walk: the law AuditReads. -/
import Derived.Test.YtcfnjpokfodmoaaGreatDoorM46
set_option maxRecDepth 100000
namespace Go.Proofs.YtcfnjpokfodmoaaGreatDoor
open Go.RowKit
set_option maxHeartbeats 8000000 in
theorem reads31_any (s:ByteArray) (q0 q1:Addr) (w:World) (hs:s.size ≤ 1048576) (hS:Sent2 w q0 q1) (hT:ErrT w) (hP:Pow10 w):Calls Tryz.prog 7 #[.string s] w fun e w' => e = .returned (.bool true) ∧ Below w.heap.size w w':=by
 have HLi:=hide (fun (W:World) (hW:Below w.heap.size w W) => lives31 q0 q1 W (hS.below hW (Nat.le_refl _)) (hT.keep hW) (hP.below hW))
 have h1:=(aread_any s w hs).mono fun e w' h => rd_form h
 have h2:=fun (W:World) => (refRead_any s W hs).mono fun e w' h => rd_form h
 obtain ⟨r,hr⟩:∃ r,readL (strL s) = r:=⟨_,rfl⟩
 have hsl:(strL s).length ≤ 1048576:=by rw [strL_length];exact hs
 have H1:=hide h1
 have H2:=hide h2
 have HR:=hide hr
 clear h1 h2 hr hS hT hP hs
 go_enter Tryz.func7,Tryz.ntmps7
 go_upto_region 2 with (go_at_call 22;refine (Calls.mono H1.out ?_);rintro e w1 ⟨A,c,ls,x0,x1,x2,x3,x4,z,hv,h6,hl,rfl,hrd,hb⟩;have HV:=hide (hv _ HR.out);have H6:=hide h6;have HL:=hide hl;have HRd:=hide hrd;have HB:=hide hb;clear hv h6 hl hrd hb)
 have k1:Bk (w1.alloc (.cells #[.int .u64 x0,.int .u64 x1,.int .u32 x2,.int .u64 x3,.int .u64 x4] 25)) w1.heap.size 25 #[.int .u64 x0,.int .u64 x1,.int .u32 x2,.int .u64 x3,.int .u64 x4]:=Bk.new w1 _ _
 have hr1:=(HRd.out.alloc (Nat.le_refl _) (.cells #[.int .u64 x0,.int .u64 x1,.int .u32 x2,.int .u64 x3,.int .u64 x4] 25)).more (B':=(w1.alloc (.cells #[.int .u64 x0,.int .u64 x1,.int .u32 x2,.int .u64 x3,.int .u64 x4] 25)).heap.size) (by simp)
 have be1:=HB.out.alloc HB.out.size (.cells #[.int .u64 x0,.int .u64 x1,.int .u32 x2,.int .u64 x3,.int .u64 x4] 25)
 obtain ⟨g,hg⟩:∃ g,g = w1.heap.size:=⟨_,rfl⟩
 rw [← hg] at k1 ⊢
 obtain ⟨W1,hW1⟩:∃ W,W = w1.alloc (.cells #[.int .u64 x0,.int .u64 x1,.int .u32 x2,.int .u64 x3,.int .u64 x4] 25):=⟨_,rfl⟩
 rw [← hW1] at k1 hr1 be1 ⊢
 have K1:=hide k1
 have HR1:=hide hr1
 have HB1:=hide be1
 clear k1 hr1 be1 hW1 hg HRd HB
 go_upto_region 3 with (go_at_call 23;refine (Calls.mono (H2.out _) ?_);rintro e w2 ⟨A2,c2,ls2,y0,y1,y2,y3,y4,z2,hv,h6,hl,rfl,hrd,hb⟩;have heq:=(hv _ HR.out).trans HV.out.symm;simp only [Prod.mk.injEq] at heq;obtain ⟨rfl,rfl,rfl,rfl,rfl,rfl,rfl⟩:=heq;have K2:=hide (K1.out.keep hb);have HR2:=hide ((HR1.out.below hb).more hb.size);have HM2:=hide hrd;have HB2:=hide (HB1.out.trans (hb.mono HB1.out.size));clear hv h6 hl hrd hb K1 HR1 HB1 HV)
 have k3:=K2.out.alloc (.cells #[.int .u64 y0,.int .u64 y1,.int .u32 y2,.int .u64 y3,.int .u64 y4] 25)
 have j3:Bk (w2.alloc (.cells #[.int .u64 y0,.int .u64 y1,.int .u32 y2,.int .u64 y3,.int .u64 y4] 25)) w2.heap.size 25 #[.int .u64 y0,.int .u64 y1,.int .u32 y2,.int .u64 y3,.int .u64 y4]:=Bk.new w2 _ _
 have hr3:=(HR2.out.alloc (Nat.le_refl _) (.cells #[.int .u64 y0,.int .u64 y1,.int .u32 y2,.int .u64 y3,.int .u64 y4] 25)).more (B':=(w2.alloc (.cells #[.int .u64 y0,.int .u64 y1,.int .u32 y2,.int .u64 y3,.int .u64 y4] 25)).heap.size) (by simp)
 have hm3:=(HM2.out.alloc (Nat.le_refl _) (.cells #[.int .u64 y0,.int .u64 y1,.int .u32 y2,.int .u64 y3,.int .u64 y4] 25)).more (B':=(w2.alloc (.cells #[.int .u64 y0,.int .u64 y1,.int .u32 y2,.int .u64 y3,.int .u64 y4] 25)).heap.size) (by simp)
 have be3:=HB2.out.alloc HB2.out.size (.cells #[.int .u64 y0,.int .u64 y1,.int .u32 y2,.int .u64 y3,.int .u64 y4] 25)
 obtain ⟨g2,hg2⟩:∃ g,g = w2.heap.size:=⟨_,rfl⟩
 rw [← hg2] at j3 ⊢
 obtain ⟨W3,hW3⟩:∃ W,W = w2.alloc (.cells #[.int .u64 y0,.int .u64 y1,.int .u32 y2,.int .u64 y3,.int .u64 y4] 25):=⟨_,rfl⟩
 rw [← hW3] at k3 j3 hr3 hm3 be3 ⊢
 have K3:=hide k3
 have J3:=hide j3
 have HR3:=hide hr3
 have HM3:=hide hm3
 have HB3:=hide be3
 clear k3 j3 hr3 hm3 be3 hW3 hg2 K2 HR2 HM2 HB2
 have heqh:=fun (W:World) => eql_head y0 y1 y2 y3 y4 W
 have hgd:=guard_head
 go_wp2_with (first
  | (go_at_call 25;refine (Calls.mono HSm.out ?_);rintro e w5 ⟨rfl,n,rfl⟩)
  | (go_at_call 24;refine (Calls.mono (HLi.out _ HB3.out) ?_);rintro e w4 ⟨rfl,hb⟩
     have sm:Calls Tryz.prog 25 #[.slice A ls2.length c,.slice A2 ls2.length c2] w4 fun e w' => e = .returned (.bool true) ∧ ∃ n,w' = w4.drewN n:=by
      have:=same31_any A A2 c c2 ls2 ls2 w4 ((HR3.out.below hb).more hb.size) ((HM3.out.below hb).more hb.size) H6.out H6.out (by have:=HL.out;omega)
      rw [decide_eq_true rfl] at this
      exact this
     obtain ⟨⟨c0,c1,c2',c3,c4⟩,_⟩:=five_cells (K3.out.keep hb)
     obtain ⟨⟨d0,d1,d2,d3,d4⟩,_⟩:=five_cells (J3.out.keep hb)
     have HSm:=hide sm
     have HB4:=hide (HB3.out.trans (hb.mono HB3.out.size))
     clear sm hb))
 go_ret
 exact ⟨rfl,below_drewN HB4.out n⟩
end Go.Proofs.YtcfnjpokfodmoaaGreatDoor
