/- Lemmas for the row: DocBuild, Builds. -/
import Derived.Test.YtcfnjpokfodmoaaGreatDoorM38
import Derived.Test.YtcfnjpokfodmoaaGreatDoorM40
import Derived.Test.YtcfnjpokfodmoaaGreatDoorM46
import Derived.Test.YtcfnjpokfodmoaaGreatDoorM48
set_option maxRecDepth 100000
set_option linter.unusedVariables false
namespace Go.Proofs.YtcfnjpokfodmoaaGreatDoor
open Go.RowKit
set_option maxHeartbeats 4000000 in
theorem refBuild_any (s:ByteArray) (w:World) (hs:s.size ≤ 4096):Calls Tryz.prog 13 #[.string s] w (BuildP (strL s) w):=by
 have co:=refColumn_any s w hs
 have HCo:=hide co
 clear co
 go_enter Tryz.func13,Tryz.ntmps13
 go_upto_region 2 with (go_at_call 31;refine (Calls.mono HCo.out ?_);rintro e w1 ⟨es,hes,rfl,hb1⟩;have HEs:=hide hes;have HB1:=hide hb1;clear hes hb1)
 have hcl:=colL_len HEs.out
 rw [strL_length] at hcl
 have hclt:=colL_lt (strL_lt s) (es:=es)
 have hst:strL (strOf (colL (strL s) es)) = colL (strL s) es:=strL_of hclt
 have al:=fun (W:World) => refAll_any (strOf (colL (strL s) es)) W (by rw [strOf_size];omega)
 rw [hst,strOf_size,hcl] at al
 have bf:=fun (b:ByteArray) (N:Int) (hb:Bs b N (allL (colL (strL s) es))) => build_facts hs HEs.out hb
 obtain ⟨V,hV⟩:∃ V,V = strOf (colL (strL s) es):=⟨_,rfl⟩
 obtain ⟨p,hp⟩:∃ p,p = primL (strL s) es:=⟨_,rfl⟩
 rw [← hV] at al ⊢
 rw [← hp] at bf ⊢
 have HAl:=hide al
 have HBf:=hide bf
 clear al bf hV hp hcl hclt hst
 go_upto_region 5 with (go_at_call 32;refine (Calls.mono (HAl.out _) ?_);rintro e w2 ⟨⟨b,N,rfl,hbs⟩,hb2⟩;have hx:=HBf.out b N hbs;obtain ⟨n,rfl,n1,n2,n3,n4,n5,n6,n7⟩:=hx;have HSw:=hide n4;have HBt:=hide n5;have HR:=hide n3;have HB2:=hide hb2;clear hbs hb2 n3 n4 n5)
 have hz1:=HB1.out.size
 have hz2:=HB2.out.size
 have k2:Bk (w2.alloc (.cells #[.string b,.int .i64 n] 27)) w2.heap.size 27 #[.string b,.int .i64 n]:=Bk.new w2 _ _
 have hbe:Below w.heap.size w (w2.alloc (.cells #[.string b,.int .i64 n] 27)):=(HB1.out.trans (HB2.out.mono hz1)).alloc (by omega) _
 obtain ⟨g7,hg7⟩:∃ g,g = w2.heap.size:=⟨_,rfl⟩
 rw [← hg7] at k2 ⊢
 obtain ⟨W2,hW2⟩:∃ W,W = w2.alloc (.cells #[.string b,.int .i64 n] 27):=⟨_,rfl⟩
 rw [← hW2] at k2 hbe ⊢
 obtain ⟨G,hG⟩:∃ G,G = segsN s.size:=⟨_,rfl⟩
 rw [← hG] at HSw HBt n7 ⊢
 have K2:=hide k2
 have HBe:=hide hbe
 have sl:=fun (W:World) => refSeal_any ⟨s.size,p,crcS (strL s),G,n⟩ b n W (crcS_lt _) ⟨by omega,by omega⟩ (by omega)
 have sm:=fun (W:World) (g:Nat) (h:W.cell? ⟨g,0,none⟩ = some (.string s)) => refSum_one g 0 1 s W h (by omega)
 have hbl:∀ x ∈ strL b,x < 256:=strL_lt b
 obtain ⟨O,hO⟩:∃ O,O = sealL ⟨s.size,p,crcS (strL s),G,n⟩ (strL b):=⟨_,rfl⟩
 have hOl:O.length ≤ 30000:=by rw [hO,sealL_length,strL_length];omega
 have hOb:∀ x ∈ O,x < 256:=by rw [hO];exact sealL_lt hbl
 obtain ⟨C,hC⟩:∃ C,C = crcS (strL s):=⟨_,rfl⟩
 have hCl:C < 4294967296:=by rw [hC];exact crcS_lt _
 rw [← hO] at HBt
 have sl2:∀ (W:World),Calls Tryz.prog 15 #[.agg #[.int .u64 s.size,.int .u64 p,.int .u32 C,.int .u64 G,.int .u64 n],bstr b n] W fun e w' => e = .returned (.tuple #[.string (strOf O),.int .i64 0]) ∧ Below W.heap.size W w':=fun W => by
  refine Calls.mono (by have:=sl W;rw [← hC] at this;exact this) ?_
  rintro e w' ⟨h1,h2⟩
  have h0:=HSw.out
  rw [← hC] at h0
  rw [if_pos h0,h0,hC,← hO] at h1
  exact ⟨h1,h2⟩
 rw [← hC] at sm
 have HSl:=hide sl2
 have HSm:=hide (sm ((W2.alloc (.cells #[.string s] 9)).drew) W2.heap.size (((Bk.new W2 9 #[.string s]).cell 0).trans rfl))
 have HOl:=hide hOl
 have HOb:=hide hOb
 have hlt2:=k2.lt
 clear k2 hbe hW2 hg7 hG sl sm hbl hO hOl hOb hC sl2 HB1 HB2 HAl HBf HSw HR HEs hz1 hz2 HCo
 go_wp2_with fail
 obtain ⟨r0,r1⟩:=two_cells (show Bk W2.drew g7 27 #[.string b,.int .i64 n] from K2.out)
 obtain ⟨v0,v1⟩:=two_cells (show Bk ((W2.alloc (.cells #[.string s] 9)).drew) g7 27 #[.string b,.int .i64 n] from (K2.out.alloc _).drew)
 have u1:IntKind.u64.wrap (s.size:Int) = (s.size:Int):=by rw [IntKind.wrap_u64];omega
 have u2:IntKind.u64.wrap (p:Int) = (p:Int):=by rw [IntKind.wrap_u64];omega
 have u3:IntKind.u64.wrap (G:Int) = (G:Int):=by rw [IntKind.wrap_u64];omega
 have u4:IntKind.u64.wrap (n:Int) = (n:Int):=by rw [IntKind.wrap_u64];omega
 clear hs hCl n2
 go_region_held3 (fun w' => w'.cell? ⟨g7,0,none⟩ = some (.string b) ∧ w'.cell? ⟨g7,1,none⟩ = some (.int .i64 n))
  (first | with_reducible exact ⟨r0,r1⟩ | with_reducible exact ⟨v0,v1⟩ | with_reducible exact ⟨y0,y1⟩)
  (first
  | (go_at_call 33;refine (Calls.mono HSm.out ?_);rintro e w5 ⟨rfl,rfl⟩)
  | (go_at_call 15;refine (Calls.mono (HSl.out _) ?_);rintro e w6 ⟨rfl,hb6⟩;have hx:=two_cells (((K2.out.alloc (.cells #[.string s] 9)).drew).keep hb6);obtain ⟨y0,y1⟩:=hx;have HB6:=hide (((HBe.out.alloc HBe.out.size (.cells #[.string s] 9)).drew).trans (hb6.mono (by have:=HBe.out.size;simp;omega)));clear hb6))
 go_wp2_with fail
 go_ret2
 exact ⟨⟨O,rfl,HBt.out,HOl.out,HOb.out⟩,HB6.out⟩
set_option maxHeartbeats 1000000 in
theorem refBuild_big (s:ByteArray) (w:World) (h1:4096 < s.size) (h2:s.size ≤ 1048576):Calls Tryz.prog 13 #[.string s] w fun e w' => e = .returned (.tuple #[.string ⟨#[]⟩,.int .i64 1]) ∧ Below w.heap.size w w':=by
 have HCo:=hide (refColumn_big s w h1 h2)
 clear h1 h2
 go_enter Tryz.func13,Tryz.ntmps13
 go_wp2_with (go_at_call 31;refine (Calls.mono HCo.out ?_);rintro e w1 ⟨rfl,hb1⟩;have HB1:=hide hb1;clear hb1)
 go_ret2
 exact ⟨rfl,HB1.out⟩
set_option maxHeartbeats 1000000 in
theorem column_big (s:ByteArray) (w:World) (h1:4096 < s.size):Calls Tryz.prog 20 #[.string s] w fun e w' => e = .returned (.tuple #[.string ⟨#[]⟩,.int .i64 0,.int .i64 1]) ∧ w' = w:=by
 have d0:decide ((4096:Int) < (s.size:Int)) = true:=decide_eq_true (by omega)
 clear h1
 go_enter Tryz.func20,Tryz.ntmps20
 go_wp2_with fail
 refine bodyPost_ret (v:=.tuple #[.string ⟨#[]⟩,.int .i64 0,.int .i64 1]) (by simp [results,Tryz.results20,go_sem]) rfl ?_
 exact ⟨rfl,rfl⟩
set_option maxHeartbeats 1000000 in
theorem build_big (s:ByteArray) (w:World) (h1:4096 < s.size):Calls Tryz.prog 12 #[.string s] w fun e w' => e = .returned (.tuple #[.string ⟨#[]⟩,.int .i64 1]) ∧ w' = w:=by
 have HCo:=hide (fun (W:World) => column_big s W h1)
 clear h1
 go_enter Tryz.func12,Tryz.ntmps12
 go_wp2_with (go_at_call 20;refine (Calls.mono (HCo.out _) ?_);rintro e w1 ⟨rfl,hww⟩;replace hww:=hww.symm;subst hww)
 go_ret2
 exact ⟨rfl,rfl⟩
set_option maxHeartbeats 4000000 in
theorem bbuilds_any (s:ByteArray) (h:Hd) (b:ByteArray) (N:Int) (q0 q1:Addr) (w:World) (hs:s.size ≤ 1048576) (hsum:h.sum < 4294967296) (hN:I64 N) (hb:b.size ≤ 4611686018427387903) (hS:Sent2 w q0 q1) (hT:ErrT w) :
 Calls Tryz.prog 3 #[.string s,headV h,bstr b N] w fun e w' => e = .returned (.bool true) ∧ Below w.heap.size w w':=by
 have HLi:=hide (fun (W:World) (hW:Below w.heap.size w W) => lives24 q0 q1 W (hS.below hW (Nat.le_refl _)) (hT.keep hW))
 obtain ⟨S,hSe⟩:∃ S,S = (if sealW h b N = 0 then strOf (sealL h (strL b)) else ⟨#[]⟩):=⟨_,rfl⟩
 obtain ⟨Z,hZ⟩:∃ Z,Z = sealW h b N:=⟨_,rfl⟩
 have sl:=fun (W:World) => seal_any h b N W hsum hN hb
 have rs:=fun (W:World) => refSeal_any h b N W hsum hN hb
 unfold SealP at sl rs
 rw [← hSe,← hZ] at sl rs
 have hSS:(S.toList == S.toList) = true:=by simp
 obtain ⟨x0,x1,x2,x3,x4⟩:=h
 unfold headV at sl rs ⊢
 have HSl:=hide sl
 have HRs:=hide rs
 have HBe:=hide ((((Below.refl w.heap.size w).alloc (Nat.le_refl _) (.cells #[.int .u64 x0,.int .u64 x1,.int .u32 x2,.int .u64 x3,.int .u64 x4] 25)).alloc (by simp) (.cells #[.string b,.int .i64 N] 27)))
 have HK1:=hide (show Bk ((w.alloc (.cells #[.int .u64 x0,.int .u64 x1,.int .u32 x2,.int .u64 x3,.int .u64 x4] 25)).alloc (.cells #[.string b,.int .i64 N] 27)) w.heap.size 25 #[.int .u64 x0,.int .u64 x1,.int .u32 x2,.int .u64 x3,.int .u64 x4] from (Bk.new w _ _).alloc _)
 have HK2:=hide (show Bk ((w.alloc (.cells #[.int .u64 x0,.int .u64 x1,.int .u32 x2,.int .u64 x3,.int .u64 x4] 25)).alloc (.cells #[.string b,.int .i64 N] 27)) (w.heap.size + 1) 27 #[.string b,.int .i64 N] from Bk.new1 w _ _ _)
 clear sl rs hSe hZ hS hT hsum hN hb
 by_cases hbig:4096 < s.size
 · have HBu:=hide (fun (W:World) => build_big s W hbig)
   have HRb:=hide (fun (W:World) => refBuild_big s W hbig hs)
   have d1:decide ((700:Int) < (s.size:Int)) = true:=decide_eq_true (by omega)
   have d2:decide ((s.size:Int) ≤ (4096:Int)) = false:=decide_eq_false (by omega)
   clear hbig hs
   go_enter Tryz.func3,Tryz.ntmps3
   go_wp2_with (first
    | (go_at_call 12;refine (Calls.mono (HBu.out _) ?_);rintro e w1 ⟨rfl,hww⟩;replace hww:=hww.symm;subst hww)
    | (go_at_call 13;refine (Calls.mono (HRb.out _) ?_);rintro e w2 ⟨rfl,hb2⟩;have k1:=HK1.out.keep hb2;have k2:=HK2.out.keep hb2;obtain ⟨⟨c0,c1,c2,c3,c4⟩,_⟩:=five_cells k1;obtain ⟨c5,c6⟩:=two_cells k2;have K1:=hide k1;have K2:=hide k2;have HB2:=hide (HBe.out.trans (hb2.mono HBe.out.size));have hz2:=k2.lt;clear hb2 k1 k2)
    | (go_at_call 14;refine (Calls.mono (HSl.out _) ?_);rintro e w3 ⟨rfl,hb3⟩;have k1:=K1.out.keep hb3;have k2:=K2.out.keep hb3;clear c0 c1 c2 c3 c4 c5 c6;obtain ⟨⟨c0,c1,c2,c3,c4⟩,_⟩:=five_cells k1;obtain ⟨c5,c6⟩:=two_cells k2;have HB3:=hide (HB2.out.trans (hb3.mono HB2.out.size));clear hb3 k1 k2)
    | (go_at_call 15;refine (Calls.mono (HRs.out _) ?_);rintro e w4 ⟨rfl,hb4⟩;have HB4:=hide (HB3.out.trans (hb4.mono HB3.out.size));clear hb4)
    | (go_at_call 11;refine (Calls.mono (HLi.out _ HB4.out) ?_);rintro e w5 ⟨rfl,hb5⟩;have HB5:=hide (HB4.out.trans (hb5.mono HB4.out.size));clear hb5))
   go_ret
   exact ⟨rfl,HB5.out⟩
 · by_cases hmid:700 < s.size
   · have d1:decide ((700:Int) < (s.size:Int)) = true:=decide_eq_true (by omega)
     have d2:decide ((s.size:Int) ≤ (4096:Int)) = true:=decide_eq_true (by omega)
     clear hbig hs hmid
     go_enter Tryz.func3,Tryz.ntmps3
     go_wp2_with (go_at_call 11;refine (Calls.mono (HLi.out _ HBe.out) ?_);rintro e w5 ⟨rfl,hb5⟩;have HB5:=hide (HBe.out.trans (hb5.mono HBe.out.size));clear hb5)
     go_ret
     exact ⟨rfl,HB5.out⟩
   · have HBu:=hide (fun (W:World) => build_any s W (by omega))
     have HRb:=hide (fun (W:World) => refBuild_any s W (by omega))
     have d1:decide ((700:Int) < (s.size:Int)) = false:=decide_eq_false (by omega)
     clear hbig hs hmid
     go_enter Tryz.func3,Tryz.ntmps3
     go_wp2_with (first
      | (go_at_call 12;refine (Calls.mono (HBu.out _) ?_);rintro e w1 ⟨⟨O,rfl,hbt,_,_⟩,hb1⟩;have HBt:=hide hbt;have KA:=hide (HK1.out.keep hb1);have KB:=hide (HK2.out.keep hb1);have HB1:=hide (HBe.out.trans (hb1.mono HBe.out.size));clear hb1 hbt)
      | (go_at_call 13;refine (Calls.mono (HRb.out _) ?_);rintro e w2 ⟨⟨O2,rfl,hbt2,_,_⟩,hb2⟩;obtain rfl:=HBt.out.one hbt2;obtain ⟨Y,hY⟩:∃ Y,Y = strOf O:=⟨_,rfl⟩;rw [← hY];have hYY:(Y.toList == Y.toList) = true:=by simp
         have k1:=KA.out.keep hb2;have k2:=KB.out.keep hb2;obtain ⟨⟨c0,c1,c2,c3,c4⟩,_⟩:=five_cells k1;obtain ⟨c5,c6⟩:=two_cells k2;have K1:=hide k1;have K2:=hide k2;have HB2:=hide (HB1.out.trans (hb2.mono HB1.out.size));have hz2:=k2.lt;clear hb2 k1 k2 hbt2 hY)
      | (go_at_call 14;refine (Calls.mono (HSl.out _) ?_);rintro e w3 ⟨rfl,hb3⟩;have k1:=K1.out.keep hb3;have k2:=K2.out.keep hb3;clear c0 c1 c2 c3 c4 c5 c6;obtain ⟨⟨c0,c1,c2,c3,c4⟩,_⟩:=five_cells k1;obtain ⟨c5,c6⟩:=two_cells k2;have HB3:=hide (HB2.out.trans (hb3.mono HB2.out.size));clear hb3 k1 k2)
      | (go_at_call 15;refine (Calls.mono (HRs.out _) ?_);rintro e w4 ⟨rfl,hb4⟩;have HB4:=hide (HB3.out.trans (hb4.mono HB3.out.size));clear hb4)
      | (go_at_call 11;refine (Calls.mono (HLi.out _ HB4.out) ?_);rintro e w5 ⟨rfl,hb5⟩;have HB5:=hide (HB4.out.trans (hb5.mono HB4.out.size));clear hb5))
     go_ret
     exact ⟨rfl,HB5.out⟩
end Go.Proofs.YtcfnjpokfodmoaaGreatDoor
