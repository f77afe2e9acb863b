/- Lemmas for the row: DocSeal. -/
import Derived.Test.YtcfnjpokfodmoaaGreatDoorM34
import Derived.Test.YtcfnjpokfodmoaaGreatDoorM35
import Derived.Test.YtcfnjpokfodmoaaGreatDoorM38
import Derived.Test.YtcfnjpokfodmoaaGreatDoorM39
import Derived.Lib.QuietBelow
set_option maxRecDepth 100000
set_option linter.unusedVariables false
namespace Go.Proofs.YtcfnjpokfodmoaaGreatDoor
open Go.RowKit Go.Sort
set_option maxHeartbeats 8000000 in
theorem refSeal_any (h:Hd) (b:ByteArray) (N:Int) (w:World) (hs:h.sum < 4294967296) (hN:I64 N) (hb:b.size ≤ 4611686018427387903):Calls Tryz.prog 15 #[headV h,bstr b N] w (SealP h b N w):=by
 have ck:=fun (W:World) => refCheck_any b N W hN (by omega)
 have hW:sealW h b N = if rightB b N = true then (if beyB h = true ∨ (h.bits:Int) ≠ N then 1 else if 65504 < b.size then 8 else 0) else 2:=rfl
 by_cases g1:rightB b N = true
 · rw [if_pos g1] at hW
   have hck:chkB b N = 0:=by unfold chkB;rw [if_pos g1]
   rw [hck] at ck
   have hR:=rightB_n g1
   obtain ⟨n,hn⟩:∃ n:Nat,N = n:=⟨N.toNat,by omega⟩
   subst hn
   have hn20:(n:Int) ≤ 1048576:=hR.2.1
   obtain ⟨x0,x1,x2,x3,x4⟩:=h
   have hs2:x2 < 4294967296:=hs
   have hbey:beyB ⟨x0,x1,x2,x3,x4⟩ = decide (1099511627776 ≤ max (max x0 x1) x3):=rfl
   have hW2:sealW ⟨x0,x1,x2,x3,x4⟩ b n = if beyB ⟨x0,x1,x2,x3,x4⟩ = true ∨ (x4:Int) ≠ (n:Int) then 1 else if 65504 < b.size then 8 else 0:=hW
   have u1:IntKind.u64.wrap (n:Int) = (n:Int):=by rw [IntKind.wrap_u64];omega
   unfold headV
   have HCk:=hide ck
   have HBe:Hid (Below w.heap.size w ((w.alloc (.cells #[.int .u64 x0,.int .u64 x1,.int .u32 x2,.int .u64 x3,.int .u64 x4] 25)).alloc (.cells #[.string b,.int .i64 n] 27))):=hide (((Below.refl _ w).alloc (Nat.le_refl _) _).alloc (by simp) _)
   have HK1:=hide (show Bk ((w.alloc (.cells #[.int .u64 x0,.int .u64 x1,.int .u32 x2,.int .u64 x3,.int .u64 x4] 25)).alloc (.cells #[.string b,.int .i64 n] 27)) w.heap.size 25 #[.int .u64 x0,.int .u64 x1,.int .u32 x2,.int .u64 x3,.int .u64 x4] from (Bk.new w _ _).alloc _)
   have HK2:=hide (show Bk ((w.alloc (.cells #[.int .u64 x0,.int .u64 x1,.int .u32 x2,.int .u64 x3,.int .u64 x4] 25)).alloc (.cells #[.string b,.int .i64 n] 27)) (w.heap.size + 1) 27 #[.string b,.int .i64 n] from Bk.new1 w _ _ _)
   clear ck hW hck g1 hR hs
   rcases (show 1099511627776 ≤ x0 ∨ (¬ 1099511627776 ≤ x0 ∧ 1099511627776 ≤ x1) ∨ (¬ 1099511627776 ≤ x0 ∧ ¬ 1099511627776 ≤ x1 ∧ 1099511627776 ≤ x3) ∨ (¬ 1099511627776 ≤ x0 ∧ ¬ 1099511627776 ≤ x1 ∧ ¬ 1099511627776 ≤ x3 ∧ x4 ≠ n) ∨ (¬ 1099511627776 ≤ x0 ∧ ¬ 1099511627776 ≤ x1 ∧ ¬ 1099511627776 ≤ x3 ∧ x4 = n) by omega) with g | ⟨g,g'⟩ | ⟨g,g',g3x⟩ | ⟨g,g',g3x,g4⟩ | ⟨g,g',g3x,g4⟩
   · rw [if_pos (.inl (by rw [hbey];exact decide_eq_true (by omega)))] at hW2
     have HZ:=hide hW2
     have gI:(1099511627776:Int) ≤ (x0:Int):=by omega
     clear hW2 hbey g
     go_enter Tryz.func15,Tryz.ntmps15
     go_wp2_with (go_at_call 38;refine (Calls.mono (HCk.out _) ?_);rintro e w3 ⟨rfl,hb3⟩;have k1:=HK1.out.keep hb3;have k2:=HK2.out.keep hb3;obtain ⟨⟨c0,c1,c2,c3,c4⟩,_⟩:=five_cells k1;obtain ⟨c5,c6⟩:=two_cells k2;have K31:=hide k1;have K32:=hide k2;have HB3:=hide (HBe.out.trans (hb3.mono (by simp;omega)));have hz3:=k2.lt;clear hb3 k1 k2)
     go_ret2
     exact SealP.bad HZ.out (by decide) HB3.out
   · rw [if_pos (.inl (by rw [hbey];exact decide_eq_true (by omega)))] at hW2
     have HZ:=hide hW2
     have gI:¬ (1099511627776:Int) ≤ (x0:Int):=by omega
     have gI':(1099511627776:Int) ≤ (x1:Int):=by omega
     clear hW2 hbey g g'
     go_enter Tryz.func15,Tryz.ntmps15
     go_wp2_with (go_at_call 38;refine (Calls.mono (HCk.out _) ?_);rintro e w3 ⟨rfl,hb3⟩;have k1:=HK1.out.keep hb3;have k2:=HK2.out.keep hb3;obtain ⟨⟨c0,c1,c2,c3,c4⟩,_⟩:=five_cells k1;obtain ⟨c5,c6⟩:=two_cells k2;have K31:=hide k1;have K32:=hide k2;have HB3:=hide (HBe.out.trans (hb3.mono (by simp;omega)));have hz3:=k2.lt;clear hb3 k1 k2)
     go_ret2
     exact SealP.bad HZ.out (by decide) HB3.out
   · rw [if_pos (.inl (by rw [hbey];exact decide_eq_true (by omega)))] at hW2
     have HZ:=hide hW2
     have gI:¬ (1099511627776:Int) ≤ (x0:Int):=by omega
     have gI':¬ (1099511627776:Int) ≤ (x1:Int):=by omega
     have gI'':(1099511627776:Int) ≤ (x3:Int):=by omega
     clear hW2 hbey g g' g3x
     go_enter Tryz.func15,Tryz.ntmps15
     go_wp2_with (go_at_call 38;refine (Calls.mono (HCk.out _) ?_);rintro e w3 ⟨rfl,hb3⟩;have k1:=HK1.out.keep hb3;have k2:=HK2.out.keep hb3;obtain ⟨⟨c0,c1,c2,c3,c4⟩,_⟩:=five_cells k1;obtain ⟨c5,c6⟩:=two_cells k2;have K31:=hide k1;have K32:=hide k2;have HB3:=hide (HBe.out.trans (hb3.mono (by simp;omega)));have hz3:=k2.lt;clear hb3 k1 k2)
     go_ret2
     exact SealP.bad HZ.out (by decide) HB3.out
   · rw [if_pos (.inr (fun e => g4 (by omega)))] at hW2
     have HZ:=hide hW2
     have gI:¬ (1099511627776:Int) ≤ (x0:Int):=by omega
     have gI':¬ (1099511627776:Int) ≤ (x1:Int):=by omega
     have gI'':¬ (1099511627776:Int) ≤ (x3:Int):=by omega
     have gN:((x4:Int) != (n:Int)) = true:=by simp;omega
     clear hW2 hbey g g' g3x g4
     go_enter Tryz.func15,Tryz.ntmps15
     go_wp2_with (go_at_call 38;refine (Calls.mono (HCk.out _) ?_);rintro e w3 ⟨rfl,hb3⟩;have k1:=HK1.out.keep hb3;have k2:=HK2.out.keep hb3;obtain ⟨⟨c0,c1,c2,c3,c4⟩,_⟩:=five_cells k1;obtain ⟨c5,c6⟩:=two_cells k2;have K31:=hide k1;have K32:=hide k2;have HB3:=hide (HBe.out.trans (hb3.mono (by simp;omega)));have hz3:=k2.lt;clear hb3 k1 k2)
     go_ret2
     exact SealP.bad HZ.out (by decide) HB3.out
   · rw [if_neg (by rintro (h | h);· rw [hbey] at h;have:=of_decide_eq_true h;omega
                    · exact h (by rw [g4]))] at hW2
     have gN:((x4:Int) != (n:Int)) = false:=by simp;omega
     have HX40:=hide (show x4 < 1099511627776 by omega)
     have b0:decide ((1099511627776:Int) ≤ (x0:Int)) = false:=decide_eq_false (by omega)
     have b1:decide ((1099511627776:Int) ≤ (x1:Int)) = false:=decide_eq_false (by omega)
     have b3:decide ((1099511627776:Int) ≤ (x3:Int)) = false:=decide_eq_false (by omega)
     clear g4
     by_cases g3:65504 < b.size
     · rw [if_pos g3] at hW2
       have HZ:=hide hW2
       have g3':(65504:Int) < (b.size:Int):=by omega
       clear hW2 hbey g g' g3x
       go_enter Tryz.func15,Tryz.ntmps15
       go_wp2_with (go_at_call 38;refine (Calls.mono (HCk.out _) ?_);rintro e w3 ⟨rfl,hb3⟩;have k1:=HK1.out.keep hb3;have k2:=HK2.out.keep hb3;obtain ⟨⟨c0,c1,c2,c3,c4⟩,_⟩:=five_cells k1;obtain ⟨c5,c6⟩:=two_cells k2;have K31:=hide k1;have K32:=hide k2;have HB3:=hide (HBe.out.trans (hb3.mono (by simp;omega)));have hz3:=k2.lt;clear hb3 k1 k2)
       go_ret2
       exact SealP.bad HZ.out (by decide) HB3.out
     · rw [if_neg g3] at hW2
       have HZ:=hide hW2
       have g3':¬ (65504:Int) < (b.size:Int):=by omega
       have f0:=fun (W:World) => refFive_any x0 W (by omega)
       have f1:=fun (W:World) => refFive_any x1 W (by omega)
       have f2:=fun (W:World) => little_any x2 W hs2
       have f3:=fun (W:World) => refFive_any x3 W (by omega)
       have f4:=fun (W:World) => refFive_any x4 W (by have:=HX40.out;omega)
       obtain ⟨V0,hV0⟩:∃ V,V = strOf (five x0):=⟨_,rfl⟩
       obtain ⟨V1,hV1⟩:∃ V,V = strOf (five x1):=⟨_,rfl⟩
       obtain ⟨V2,hV2⟩:∃ V,V = strOf (tail4 x2):=⟨_,rfl⟩
       obtain ⟨V3,hV3⟩:∃ V,V = strOf (five x3):=⟨_,rfl⟩
       obtain ⟨V4,hV4⟩:∃ V,V = strOf (five x4):=⟨_,rfl⟩
       rw [← hV0] at f0
       rw [← hV1] at f1
       rw [← hV2] at f2
       rw [← hV3] at f3
       rw [← hV4] at f4
       have s0:V0.size = 5:=by rw [hV0,strOf_size];rfl
       have s1:V1.size = 5:=by rw [hV1,strOf_size];rfl
       have s2:V2.size = 4:=by rw [hV2,strOf_size];rfl
       have s3:V3.size = 5:=by rw [hV3,strOf_size];rfl
       have s4:V4.size = 5:=by rw [hV4,strOf_size];rfl
       have hcat:(9223372036854775807 < 28 + b.size) = False:=eq_false (by omega)
       have hF:strL ((⟨#[87,82,71,49]⟩:ByteArray) ++ V0 ++ V1 ++ V2 ++ V3 ++ V4 ++ b) = frontL ⟨x0,x1,x2,x3,x4⟩ ++ strL b:=by
        rw [strL_app,strL_app,strL_app,strL_app,strL_app,strL_app,mark_str,hV0,hV1,hV2,hV3,hV4,strL_of (five_lt x0),strL_of (five_lt x1),strL_of (tail4_lt x2),strL_of (five_lt x3),strL_of (five_lt x4)];rfl
       have HFs:=hide hF
       have HF0:=hide f0
       have HF1:=hide f1
       have HF2:=hide f2
       have HF3:=hide f3
       have HF4:=hide f4
       clear hW2 hbey g g' g3x hV0 hV1 hV2 hV3 hV4 f0 f1 f2 f3 f4 hF
       go_enter Tryz.func15,Tryz.ntmps15
       go_wp2_with (go_at_call 38;refine (Calls.mono (HCk.out _) ?_);rintro e w3 ⟨rfl,hb3⟩;have k1:=HK1.out.keep hb3;have k2:=HK2.out.keep hb3;obtain ⟨⟨c0,c1,c2,c3,c4⟩,_⟩:=five_cells k1;obtain ⟨c5,c6⟩:=two_cells k2;have K31:=hide k1;have K32:=hide k2;have HB3:=hide (HBe.out.trans (hb3.mono (by simp;omega)));have hz3:=k2.lt;clear hb3 k1 k2)
       have hmx:Tryz.prog.follows .mixedOrders = true:=by kernel_rfl
       have k0:=cell_regrown c0
       have k1:=cell_regrown c1
       have k2:=cell_regrown c2
       have k3:=cell_regrown c3
       have k4:=cell_regrown c4
       have k5:=cell_regrown c5
       have cf0:=fun d os => Calls.regrown_of (w:=w3) (d:=d) (os:=os) (HF0.out _)
       have cf1:=fun d os => Calls.regrown_of (w:=w3) (d:=d) (os:=os) (HF1.out _)
       have cf2:=fun d os => Calls.regrown_of (w:=w3) (d:=d) (os:=os) (HF2.out _)
       have cf3:=fun d os => Calls.regrown_of (w:=w3) (d:=d) (os:=os) (HF3.out _)
       have cf4:=fun d os => Calls.regrown_of (w:=w3) (d:=d) (os:=os) (HF4.out _)
       have CF0:=hide cf0
       have CF1:=hide cf1
       have CF2:=hide cf2
       have CF3:=hide cf3
       have CF4:=hide cf4
       clear cf0 cf1 cf2 cf3 cf4 HF0 HF1 HF3 HF4 c0 c1 c2 c3 c4 c5 c6
       refine wp_region_quiet_below hmx (by kernel_rfl) ?_
       repeat (quiet_step (first | with_reducible exact CF0.out _ _ | with_reducible exact CF1.out _ _ | with_reducible exact CF2.out _ _ | with_reducible exact CF3.out _ _ | with_reducible exact CF4.out _ _))
       refine wpQuiet_nil ?_
       intro _ hw'
       obtain ⟨⟨dq,osq⟩,hw''⟩:=hw'
       subst hw''
       dsimp only
       have HB4:Hid (Below w.heap.size w (grow (redrawn w3 dq) osq)):=hide (HB3.out.trans ((below_regrown w3 dq osq).mono HB3.out.size))
       obtain ⟨w5,hw5⟩:∃ W,W = grow (redrawn w3 dq) osq:=⟨_,rfl⟩
       rw [← hw5] at HB4 ⊢
       have FS:=HFs.out
       have fsz:((⟨#[87,82,71,49]⟩:ByteArray) ++ V0 ++ V1 ++ V2 ++ V3 ++ V4 ++ b).size = 28 + b.size:=by
        simp only [ByteArray.size_append,s0,s1,s2,s3,s4];rfl
       obtain ⟨F,hF⟩:∃ F,F = (⟨#[87,82,71,49]⟩:ByteArray) ++ V0 ++ V1 ++ V2 ++ V3 ++ V4 ++ b:=⟨_,rfl⟩
       rw [← hF] at FS fsz ⊢
       have sm:=fun (W:World) (g:Nat) (h:W.cell? ⟨g,0,none⟩ = some (.string F)) => refSum_one g 0 1 F W h (by omega)
       have tl:=fun (W:World) => little_any (crcS (strL F)) W (crcS_lt _)
       obtain ⟨C,hC⟩:∃ C,C = crcS (strL F):=⟨_,rfl⟩
       rw [← hC] at sm tl
       obtain ⟨V,hV⟩:∃ V,V = strOf (tail4 C):=⟨_,rfl⟩
       rw [← hV] at tl
       have hVs:V.size = 4:=by rw [hV,strOf_size];rfl
       have hres:F ++ V = strOf (sealL ⟨x0,x1,x2,x3,x4⟩ (strL b)):=by
        refine strL_inj ?_
        rw [strL_app]
        have h2:strL V = tail4 C:=by rw [hV];exact strL_of (tail4_lt C)
        rw [strL_of (sealL_lt (strL_lt b)),h2,hC,FS];rfl
       have hcat3:(9223372036854775807 < F.size + V.size) = False:=eq_false (by omega)
       have hcat4:F.size + V.size ≤ 9223372036854775807:=by omega
       have HRes:=hide hres
       have HSm:=hide (sm (w5.alloc (.cells #[.string F] 9)) w5.heap.size (((Bk.new w5 9 #[.string F]).cell 0).trans rfl))
       have HTl:=hide tl
       clear hw5 FS hF hC hV sm tl hres HFs CF0 CF1 CF2 CF3 CF4 HB3 K31 K32 HCk HBe HK1 HK2 k0 k1 k2 k3 k4 k5 hcat s0 s1 s2 s3 s4 fsz hVs
       go_wp2_with (first
        | (go_at_call 40;refine (Calls.mono (HTl.out _) ?_);rintro e w6 ⟨rfl,hb6⟩;have HB6:=hide ((HB4.out.alloc HB4.out.size (.cells #[.string F] 9)).trans (hb6.mono (by have:=HB4.out.size;simp;omega)));clear hb6)
        | (go_at_call 33;refine (Calls.mono HSm.out ?_);rintro e w1 ⟨rfl,rfl⟩))
       go_ret2
       rw [HRes.out]
       exact SealP.good HZ.out rfl HB6.out
 · rw [if_neg g1] at hW
   have hck:chkB b N = 2:=by unfold chkB;rw [if_neg g1]
   rw [hck] at ck
   have HCk:=hide ck
   have HZ:=hide hW
   obtain ⟨x0,x1,x2,x3,x4⟩:=h
   unfold headV
   clear ck hW hck g1
   go_enter Tryz.func15,Tryz.ntmps15
   go_wp2_with (go_at_call 38;refine (Calls.mono (HCk.out _) ?_);rintro e w3 ⟨rfl,hb3⟩;have HB3:=hide hb3;clear hb3)
   go_ret2
   exact SealP.bad HZ.out (by decide) ((((Below.refl _ w).alloc (Nat.le_refl _) _).alloc (by simp) _).trans (HB3.out.mono (by simp;omega)))
end Go.Proofs.YtcfnjpokfodmoaaGreatDoor
