/- Walk: the law AuditAll. -/
import Derived.Test.YtcfnjpokfodmoaaGreatDoorM46
set_option maxRecDepth 100000
namespace Go.Proofs.YtcfnjpokfodmoaaGreatDoor
open Go.RowKit
theorem sumK_take_le (k:Nat) (ls:List (List Nat)) (i:Nat):sumK k (ls.take i) ≤ sumK k ls:=by
 have h:sumK k ls = sumK k (ls.take i) + sumK k (ls.drop i):=by
  unfold sumK
  rw [← List.sum_append,← List.map_append,List.take_append_drop]
 omega
theorem sumK_take_succ {ls:List (List Nat)} {i:Nat} {x:List Nat} (k:Nat) (h:ls[i]? = some x):sumK k (ls.take (i + 1)) = sumK k (ls.take i) + x.getD k 0:=by
 rw [List.take_add_one,h]
 exact sumK_snoc k x _
set_option maxHeartbeats 8000000 in
theorem all31_any (s:ByteArray) (q0 q1:Addr) (w:World) (hS:Sent2 w q0 q1) (hT:ErrT w) (hP:Pow10 w):Calls Tryz.prog 8 #[.string s] w fun e w' => e = .returned (.bool true) ∧ Below w.heap.size w w':=by
 have li:=lives31 q0 q1 w hS hT hP
 have HLi:=hide li
 clear li
 by_cases hbig:1500 < s.size
 · have d0:(1500:Int) < (s.size:Int):=by omega
   clear hS hT hP hbig
   go_enter Tryz.func8,Tryz.ntmps8
   go_wp2_with (go_at_call 24;refine (Calls.mono HLi.out ?_);rintro e w1 ⟨rfl,hb1⟩;have HB1:=hide hb1;clear hb1)
   go_ret
   exact ⟨rfl,HB1.out⟩
 · have d0:¬ (1500:Int) < (s.size:Int):=by omega
   have sg:=fun (W:World) (hW:Below w.heap.size w W) => segments_any s q0 q1 W (hS.below hW (Nat.le_refl _)) (hT.keep hW) (by omega)
   have hd:=fun (W:World) (hW:Below w.heap.size w W) => headN_any s W (by omega) (hT.keep hW)
   obtain ⟨z,t,hR⟩:∃ z t,openR (strL s) = (z,t):=⟨_,_,rfl⟩
   by_cases hz:z = 0
   · subst hz
     obtain ⟨ls,g1,g2,g3,g4,g5,g6,g7,g8,g9,g10⟩:=opened_all hR
     unfold headH at hd
     rw [if_pos g7,g7] at hd
     have sg2:∀ (W:World),Below w.heap.size w W → Calls Tryz.prog 26 #[.string s] W fun e w' => (∃ A k,e = .returned (.tuple #[.slice A ls.length k,.int .i64 0]) ∧ Rd w' w'.heap.size A (flat6 ls)) ∧ Below W.heap.size W w':=fun W hW => by
      refine Calls.mono (sg W hW) ?_
      rintro e w' ⟨h | ⟨_,A,k,ls',h1,rfl,h2,_⟩,hb⟩
      · rw [hR] at h;exact absurd rfl h.1
      · obtain rfl:ls' = ls:=(Option.some.inj (g1.symm.trans h1)).symm
        exact ⟨⟨A,k,rfl,h2⟩,hb⟩
     obtain ⟨H,hH⟩:∃ H,H = fieldsL (strL s):=⟨_,rfl⟩
     rw [← hH] at hd g4 g5 g6 g9 g10
     obtain ⟨x0,x1,x2,x3,x4⟩:=H
     have e0:sumK 0 ls = x0:=g4
     have e4:sumK 4 ls + sumK 5 ls = x4:=g5
     have e3:ls.length = x3:=g6
     have e9:x0 ≤ 4096:=g9
     have e10:x4 ≤ 1048576:=g10
     have hd2:∀ (W:World),Below w.heap.size w W → Calls Tryz.prog 17 #[.string s] W fun e w' => e = .returned (.tuple #[.agg #[.int .u64 x0,.int .u64 x1,.int .u32 x2,.int .u64 x3,.int .u64 x4],.int .i64 0]) ∧ Below W.heap.size W w':=fun W hW => hd W hW
     have H6:=hide (fun (l:List Nat) (hl:l ∈ ls) => (good_lt (g2 l hl)).1)
     have HG:=hide g2
     have H512:=hide g3
     have E0:=hide e0
     have E4:=hide e4
     have E3:=hide e3
     have E9:=hide e9
     have E10:=hide e10
     have HL:=hide g8
     have HSg:=hide sg2
     have HHd:=hide hd2
     clear sg sg2 hd hd2 hR hS hT hP hbig hH g1 g2 g3 g4 g5 g6 g7 g8 g9 g10 e0 e4 e3 e9 e10
     go_enter Tryz.func8,Tryz.ntmps8
     go_upto_region 6 with (first
      | (go_at_call 26;refine (Calls.mono (HSg.out w1 HB1.out) ?_);rintro e w2 ⟨⟨A,k,rfl,hr⟩,hb2⟩;have HR2:=hide hr;have HB2:=hide (HB1.out.trans (hb2.mono HB1.out.size));clear hb2 hr)
      | (go_at_call 24;refine (Calls.mono HLi.out ?_);rintro e w1 ⟨rfl,hb1⟩;have HB1:=hide hb1;clear hb1))
     go_upto_region 7 with (go_at_call 17;refine (Calls.mono (HHd.out _ HB2.out) ?_);rintro e w3 ⟨rfl,hb⟩;have HR3:=hide ((HR2.out.below hb).more hb.size);have HB3:=hide (HB2.out.trans (hb.mono HB2.out.size));clear hb HB2 HR2)
     have k5:Bk (w3.alloc (.cells #[.int .u64 x0,.int .u64 x1,.int .u32 x2,.int .u64 x3,.int .u64 x4] 25)) w3.heap.size 25 #[.int .u64 x0,.int .u64 x1,.int .u32 x2,.int .u64 x3,.int .u64 x4]:=Bk.new w3 _ _
     have hr5:=(HR3.out.alloc (Nat.le_refl _) (.cells #[.int .u64 x0,.int .u64 x1,.int .u32 x2,.int .u64 x3,.int .u64 x4] 25)).more (B':=(w3.alloc (.cells #[.int .u64 x0,.int .u64 x1,.int .u32 x2,.int .u64 x3,.int .u64 x4] 25)).heap.size) (by simp)
     have be5:=HB3.out.alloc HB3.out.size (.cells #[.int .u64 x0,.int .u64 x1,.int .u32 x2,.int .u64 x3,.int .u64 x4] 25)
     obtain ⟨g,hg⟩:∃ g,g = w3.heap.size:=⟨_,rfl⟩
     rw [← hg] at k5 ⊢
     obtain ⟨W5,hW5⟩:∃ W,W = w3.alloc (.cells #[.int .u64 x0,.int .u64 x1,.int .u32 x2,.int .u64 x3,.int .u64 x4] 25):=⟨_,rfl⟩
     rw [← hW5] at k5 hr5 be5 ⊢
     have K5:=hide k5
     have HR5:=hide hr5
     have HB5:=hide be5
     clear k5 hr5 be5 hW5 hg HR3 HB3
     go_wp2_with fail
     go_loopw [7,8,33] (fun b c i wr => ∃ n:Nat,i = .int .i64 n ∧ n ≤ ls.length ∧ b = .int .u64 (sumK 0 (ls.take n):Nat) ∧ c = .int .u64 ((sumK 4 (ls.take n) + sumK 5 (ls.take n):Nat)) ∧ Hid (Below W5.heap.size W5 wr)) (fun _ _ i _ => ls.length - (intOf i).toNat)
     case atStart => exact ⟨0,rfl,by omega,by simp [sumK],by simp [sumK],hide (Below.refl _ _)⟩
     case round =>
      obtain ⟨n,rfl,hn,rfl,rfl,hbe⟩:=hrel
      have t0:=sumK_take_le 0 ls n
      have t4:=sumK_take_le 4 ls n
      have t5:=sumK_take_le 5 ls n
      have z0:=E0.out
      have z4:=E4.out
      have z3:=E3.out
      have z9:=E9.out
      have z10:=E10.out
      have zl:=HL.out
      by_cases hlt:n < ls.length
      · obtain ⟨x,hx⟩:∃ x,ls[n]? = some x:=⟨ls[n],by simp [hlt]⟩
        obtain ⟨a,b,c,d,e,f,rfl,m1,m2,m3,m4,m5,m6,m7,m8,m9,m10⟩:=HG.out x (List.mem_of_getElem? hx)
        have s0:=sumK_take_succ 0 hx
        have s4:=sumK_take_succ 4 hx
        have s5:=sumK_take_succ 5 hx
        have hlast:n + 1 < ls.length → a = 512:=fun h => by
         obtain ⟨y,hy,hy0⟩:=H512.out n h
         rw [hx] at hy
         cases hy
         exact hy0
        have gx:=fun (i:Nat) (hi:i < 6) => flat6_get H6.out hx hi
        obtain ⟨ba,oa,hA,_,_⟩:=HR5.out (6 * n + 0) _ (gx 0 (by omega))
        subst hA
        have cx:=fun (i:Nat) (hi:i < 6) => show W5.cell? ⟨ba,oa + (6 * n + i),none⟩ = some (.int .i64 ([a,b,c,d,e,f].getD i 0:Nat)) from by
         obtain ⟨b2,o2,hA2,_,hc⟩:=HR5.out (6 * n + i) _ (gx i hi)
         simp only [Option.some.injEq,Addr.mk.injEq,and_true] at hA2
         obtain ⟨rfl,rfl⟩:=hA2
         exact hc
        have hba:ba < W5.heap.size:=by have:=cx 0 (by omega);exact World.block_lt_of_cell? W5 _ this
        have cw:=fun (i:Nat) (hi:i < 6) => show wr.cell? ⟨ba,oa + n * 6 + i,none⟩ = some (.int .i64 ([a,b,c,d,e,f].getD i 0:Nat)) from by
         have:=(hbe.out.cell (p:=⟨ba,oa + (6 * n + i),none⟩) hba).trans (cx i hi)
         rwa [show oa + (6 * n + i) = oa + n * 6 + i by omega] at this
        have u0:wr.cell? ⟨ba,oa + n * 6,none⟩ = some (.int .i64 (a:Nat)):=cw 0 (by omega)
        have u1:wr.cell? ⟨ba,oa + n * 6 + 1,none⟩ = some (.int .i64 (b:Nat)):=cw 1 (by omega)
        have u2:wr.cell? ⟨ba,oa + n * 6 + 2,none⟩ = some (.int .i64 (c:Nat)):=cw 2 (by omega)
        have u3:wr.cell? ⟨ba,oa + n * 6 + 3,none⟩ = some (.int .i64 (d:Nat)):=cw 3 (by omega)
        have u4:wr.cell? ⟨ba,oa + n * 6 + 4,none⟩ = some (.int .i64 (e:Nat)):=cw 4 (by omega)
        have u5:wr.cell? ⟨ba,oa + n * 6 + 5,none⟩ = some (.int .i64 (f:Nat)):=cw 5 (by omega)
        have hwa:IntKind.u64.wrap (a:Int) = (a:Int):=by unfold IntKind.wrap;simp [IntKind.bits,IntKind.signed];omega
        have hwe:IntKind.u64.wrap (e:Int) = (e:Int):=by unfold IntKind.wrap;simp [IntKind.bits,IntKind.signed];omega
        have hwf:IntKind.u64.wrap (f:Int) = (f:Int):=by unfold IntKind.wrap;simp [IntKind.bits,IntKind.signed];omega
        obtain ⟨S0,hS0⟩:∃ S,S = sumK 0 (ls.take n):=⟨_,rfl⟩
        obtain ⟨S4,hS4⟩:∃ S,S = sumK 4 (ls.take n) + sumK 5 (ls.take n):=⟨_,rfl⟩
        have r0:sumK 0 (ls.take (n + 1)) = S0 + a:=by rw [s0,hS0];rfl
        have r4:sumK 4 (ls.take (n + 1)) + sumK 5 (ls.take (n + 1)) = S4 + e + f:=by rw [s4,s5,hS4];show sumK 4 (ls.take n) + e + (sumK 5 (ls.take n) + f) = _;omega
        rw [← hS0] at t0 ⊢
        rw [← hS4] at ⊢
        have b0:S0 + a ≤ 5000:=by omega
        have b4:S4 + e + f ≤ 2000000:=by omega
        have q0:IntKind.u64.wrap ((S0:Int) + (a:Int)) = ((S0 + a:Nat):Int):=by unfold IntKind.wrap;simp [IntKind.bits,IntKind.signed];omega
        have q4:IntKind.u64.wrap ((e:Int) + (f:Int)) = ((e + f:Nat):Int):=by unfold IntKind.wrap;simp [IntKind.bits,IntKind.signed];omega
        have q5:IntKind.u64.wrap ((S4:Int) + ((e:Int) + (f:Int))) = ((S4 + e + f:Nat):Int):=by unfold IntKind.wrap;simp [IntKind.bits,IntKind.signed];omega
        have R0:=hide r0
        have R4:=hide r4
        have HX:=hide hlast
        have hlI:(n:Int) < (ls.length:Int):=by omega
        have l1:¬ (a:Int) < 1:=by omega
        have l2:¬ (512:Int) < (a:Int):=by omega
        have l3:¬ (d:Int) < 1:=by omega
        have l4:¬ (15:Int) < (d:Int):=by omega
        have l5:¬ (c:Int) < 1:=by omega
        have l6:¬ (a:Int) + 1 < (b:Int):=by omega
        have l7:¬ (f:Int) < (b:Int):=by omega
        have hfr:∀ (W:World),True:=fun _ => trivial
        clear cx cw gx hx s0 s4 s5 t0 t4 t5 z0 z4 z3 z9 z10 hS0 hS4 r0 r4 hlast hfr b0 b4 m1 m2 m3 m4 m5 m6 m7 m8 m9 m10
        by_cases hnl:n + 1 < ls.length
        · obtain rfl:a = 512:=HX.out hnl
          have hnI:(n:Int) < (ls.length:Int) - 1:=by omega
          have q0':IntKind.u64.wrap ((S0:Int) + 512) = ((S0 + 512:Nat):Int):=q0
          go_wp2_with fail
          refine ⟨⟨n + 1,by simp,by omega, ?_, ?_,hide (hbe.out.alloc hbe.out.size _)⟩,by simp [intOf];omega⟩
          · rw [R0.out];congr 1
          · rw [R4.out];congr 1
        · have hnI:¬ (n:Int) < (ls.length:Int) - 1:=by omega
          go_wp2_with fail
          refine ⟨⟨n + 1,by simp,by omega, ?_, ?_,hide (hbe.out.alloc hbe.out.size _)⟩,by simp [intOf];omega⟩
          · rw [R0.out];congr 1
          · rw [R4.out];congr 1
      · have hge:n = ls.length:=by omega
        subst hge
        rw [List.take_length,z0,z4]
        obtain ⟨⟨c0,c1,c2,c3,c4⟩,_⟩:=five_cells (K5.out.keep hbe.out)
        have hw3:IntKind.u64.wrap (ls.length:Int) = (x3:Int):=by rw [z3];unfold IntKind.wrap;simp [IntKind.bits,IntKind.signed];omega
        have HB6:=hide (HB5.out.trans (hbe.out.mono HB5.out.size))
        clear t0 t4 t5 z0 z4 z3 z9 z10 hbe
        go_wp2_with fail
        go_ret
        exact ⟨rfl,HB6.out⟩
   · have sg2:∀ (W:World),Below w.heap.size w W → Calls Tryz.prog 26 #[.string s] W fun e w' => e = .returned (.tuple #[.slice none 0 0,.int .i64 z]) ∧ Below W.heap.size W w':=fun W hW => by
      refine Calls.mono (sg W hW) ?_
      rintro e w' ⟨h | ⟨h,_⟩,hb⟩
      · rw [hR] at h;exact ⟨h.2,hb⟩
      · rw [hR] at h;exact absurd h hz
     have hd2:∀ (W:World),Below w.heap.size w W → Calls Tryz.prog 17 #[.string s] W fun e w' => (∃ x0 x1 x2 x3 x4 y:Int,e = .returned (.tuple #[.agg #[.int .u64 x0,.int .u64 x1,.int .u32 x2,.int .u64 x3,.int .u64 x4],.int .i64 y])) ∧ Below W.heap.size W w':=fun W hW => by
      refine Calls.mono (hd W hW) ?_
      rintro e w' ⟨rfl,hb⟩
      exact ⟨⟨_,_,_,_,_,_,rfl⟩,hb⟩
     have HSg:=hide sg2
     have HHd:=hide hd2
     have hz2:(z == 0) = false:=by simpa using hz
     clear sg sg2 hd hd2 hR hS hT hP hbig
     go_enter Tryz.func8,Tryz.ntmps8
     go_wp2_with (first
      | (go_at_call 17;refine (Calls.mono (HHd.out w2 HB2.out) ?_);rintro e w3 ⟨⟨x0,x1,x2,x3,x4,y,rfl⟩,hb3⟩;have HB3:=hide (HB2.out.trans (hb3.mono HB2.out.size));clear hb3)
      | (go_at_call 26;refine (Calls.mono (HSg.out w1 HB1.out) ?_);rintro e w2 ⟨rfl,hb2⟩;have HB2:=hide (HB1.out.trans (hb2.mono HB1.out.size));clear hb2)
      | (go_at_call 24;refine (Calls.mono HLi.out ?_);rintro e w1 ⟨rfl,hb1⟩;have HB1:=hide hb1;clear hb1))
     go_ret
     exact ⟨rfl,HB3.out.alloc HB3.out.size _⟩
end Go.Proofs.YtcfnjpokfodmoaaGreatDoor
