/- Walk: the law AuditBest. -/
import Derived.Test.YtcfnjpokfodmoaaGreatDoorM46
set_option maxRecDepth 100000
namespace Go.Proofs.YtcfnjpokfodmoaaGreatDoor
open Go.RowKit
theorem holds_eq (s t:ByteArray):decide (((0:Int),strL s) = ((0:Int),strL t)) = (s.toList == t.toList):=by
 by_cases h:s = t
 · subst h;simp
 · have h1:strL s ≠ strL t:=fun e => h (by rw [← strOf_strL s,← strOf_strL t,e])
   have h2:¬ s.toList = t.toList:=fun e => h (by rw [Lib.toList_data,Lib.toList_data] at e;exact ByteArray.ext (Array.toList_inj.1 e))
   simp [h1,h2]
set_option maxHeartbeats 8000000 in
theorem best31_any (s t:ByteArray) (q0 q1:Addr) (w:World) (hS:Sent2 w q0 q1) (hT:ErrT w) (hP:Pow10 w):Calls Tryz.prog 10 #[.string s,.string t] w fun e w' => e = .returned (.bool true) ∧ Below w.heap.size w w':=by
 have li:=lives31 q0 q1 w hS hT hP
 have HLi:=hide li
 clear li
 by_cases hbig:700 < s.size
 · have d0:(700:Int) < (s.size:Int):=by omega
   clear hS hT hP hbig
   go_enter Tryz.func10,Tryz.ntmps10
   go_wp2_with (go_at_call 24;refine (Calls.mono HLi.out ?_);rintro e w1 ⟨rfl,hb1⟩;have HB1:=hide hb1;clear hb1)
   go_ret
   exact ⟨rfl,HB1.out⟩
 · have d0:¬ (700:Int) < (s.size:Int):=by omega
   have bu:=fun (W:World) => build_any s W (by omega)
   have be:=fun (W:World) => best_any s W (by omega)
   have bh:=fun (O:ByteArray) (W:World) (hW:Below w.heap.size w W) (h64:O.size ≤ 1000000) => headN_any O W h64 (hT.keep hW)
   have bo:=fun (O u:ByteArray) (W:World) (hW:Below w.heap.size w W) (h64:O.size ≤ 1000000) => aholds_any O u q0 q1 W (hS.below hW (Nat.le_refl _)) (hT.keep hW) h64
   have hsl:(strL s).length ≤ 4096:=by rw [strL_length];omega
   have HBu:=hide bu
   have HBe:=hide be
   have HBh:=hide bh
   have HBo:=hide bo
   clear bu be bh bo hS hT hP hbig
   go_enter Tryz.func10,Tryz.ntmps10
   go_upto_region 6 with (first
    | (go_at_call 12;refine (Calls.mono (HBu.out w1) ?_);rintro e w2 ⟨⟨O,rfl,hbt,hOl,hOb⟩,hb2⟩;have HBt:=hide hbt;have HOl:=hide hOl;have HOb:=hide hOb;have HB2:=hide (HB1.out.trans (hb2.mono HB1.out.size));clear hbt hOl hOb hb2 HB1)
    | (go_at_call 24;refine (Calls.mono HLi.out ?_);rintro e w1 ⟨rfl,hb1⟩;have HB1:=hide hb1;clear hb1))
   have hst:strL (strOf O) = O:=strL_of HOb.out
   have hss:(strOf O).size = O.length:=strOf_size O
   have hO1:=HOl.out
   obtain ⟨-,-,-,⟨es,he,-⟩,-⟩:=built_facts (strL_lt s) hsl HBt.out HOl.out HOb.out
   obtain ⟨f1,f2,f3⟩:=told_facts (strL_lt s) hsl HBt.out HOl.out HOb.out he
   obtain ⟨N,hN⟩:∃ N,N = (allL (colL (strL s) es)).length:=⟨_,rfl⟩
   obtain ⟨-,-,-,-,-,-,-,hw0,-,-,hbits⟩:=opened_all f1
   have hfb:(fieldsL O).bits = N:=by rw [hN];have:=f3;unfold four at this;simp at this;exact this.2.2.2
   obtain ⟨S,hSe⟩:∃ S,S = strOf O:=⟨_,rfl⟩
   rw [← hSe] at hst hss ⊢
   have b2:∀ (W:World),Calls Tryz.prog 28 #[.string s] W fun e w' => e = .returned (.tuple #[.int .i64 (N:Nat),.int .i64 0]) ∧ Below W.heap.size W w':=fun W => by
    refine Calls.mono (HBe.out W) ?_
    rintro e w' ⟨⟨es',he',rfl⟩,hb⟩
    obtain rfl:=he'.unique he
    rw [← hN]
    exact ⟨rfl,hb⟩
   have hd:=fun (W:World) (hW:Below w.heap.size w W) => HBh.out S W hW (by omega)
   unfold headH at hd
   rw [hst,if_pos hw0,hw0] at hd
   obtain ⟨H,hH⟩:∃ H,H = fieldsL O:=⟨_,rfl⟩
   rw [← hH] at hd hfb hbits
   obtain ⟨x0,x1,x2,x3,x4⟩:=H
   have hx4:x4 = N:=hfb
   subst hx4
   have hd2:∀ (W:World),Below w.heap.size w W → Calls Tryz.prog 17 #[.string S] W fun e w' => e = .returned (.tuple #[.agg #[.int .u64 x0,.int .u64 x1,.int .u32 x2,.int .u64 x3,.int .u64 x4],.int .i64 0]) ∧ Below W.heap.size W w':=fun W hW => hd W hW
   have ho1:=fun (W:World) (hW:Below w.heap.size w W) => HBo.out S s W hW (by omega)
   have ho2:=fun (W:World) (hW:Below w.heap.size w W) => HBo.out S t W hW (by omega)
   rw [hst,f1,decide_eq_true rfl] at ho1
   rw [hst,f1,holds_eq] at ho2
   have hb4:x4 ≤ 1048576:=hbits
   have hwr:IntKind.u64.wrap (x4:Int) = (x4:Int):=by unfold IntKind.wrap;simp [IntKind.bits,IntKind.signed];omega
   obtain ⟨c,hc⟩:∃ c,c = (s.toList == t.toList):=⟨_,rfl⟩
   rw [← hc] at ho2
   have H2:=hide b2
   have HHd:=hide hd2
   have HO1:=hide ho1
   have HO2:=hide ho2
   have HC:=hide hc
   clear b2 hd hd2 ho1 ho2 hc hH hSe hst hss hO1 he f1 f2 f3 hN hw0 hbits hfb HBt HOl HOb HBu HBe HBh HBo HLi hsl
   go_upto_region 7 with (go_at_call 28;refine (Calls.mono (H2.out _) ?_);rintro e w3 ⟨rfl,hb⟩;have HB3:=hide (HB2.out.trans (hb.mono HB2.out.size));clear hb HB2)
   go_upto_region 8 with (go_at_call 17;refine (Calls.mono (HHd.out _ HB3.out) ?_);rintro e w4 ⟨rfl,hb⟩;have HB4:=hide (HB3.out.trans (hb.mono HB3.out.size));clear hb HB3)
   have k5:Bk (w4.alloc (.cells #[.int .u64 x0,.int .u64 x1,.int .u32 x2,.int .u64 x3,.int .u64 x4] 25)) w4.heap.size 25 #[.int .u64 x0,.int .u64 x1,.int .u32 x2,.int .u64 x3,.int .u64 x4]:=Bk.new w4 _ _
   have be5:=HB4.out.alloc HB4.out.size (.cells #[.int .u64 x0,.int .u64 x1,.int .u32 x2,.int .u64 x3,.int .u64 x4] 25)
   obtain ⟨g,hg⟩:∃ g,g = w4.heap.size:=⟨_,rfl⟩
   rw [← hg] at k5 ⊢
   obtain ⟨W5,hW5⟩:∃ W,W = w4.alloc (.cells #[.int .u64 x0,.int .u64 x1,.int .u32 x2,.int .u64 x3,.int .u64 x4] 25):=⟨_,rfl⟩
   rw [← hW5] at k5 be5 ⊢
   obtain ⟨⟨c0,c1,c2,c3,c4⟩,_⟩:=five_cells k5
   have HB5:=hide be5
   have hcc:(c == c) = true:=by simp
   clear k5 be5 hW5 hg HB4
   go_wp2_with (first
    | (have hx6:=HB6;clear hx6;go_at_call 29;refine (Calls.mono (HO2.out _ HB6.out) ?_);rintro e w7 ⟨rfl,hb⟩;have HB7:=hide (HB6.out.trans (hb.mono HB6.out.size));clear hb)
    | (go_at_call 29;refine (Calls.mono (HO1.out _ HB5.out) ?_);rintro e w6 ⟨rfl,hb⟩;have HB6:=hide (HB5.out.trans (hb.mono HB5.out.size));clear hb))
   go_ret
   exact ⟨by rw [← HC.out];simp,HB7.out⟩
end Go.Proofs.YtcfnjpokfodmoaaGreatDoor
