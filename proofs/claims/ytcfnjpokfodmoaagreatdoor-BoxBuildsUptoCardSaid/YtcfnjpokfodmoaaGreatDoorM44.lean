/- Lemmas for the row: RefLen. -/
import Derived.Test.YtcfnjpokfodmoaaGreatDoorM14
set_option maxRecDepth 100000
set_option linter.unusedVariables false
namespace Go.Proofs.YtcfnjpokfodmoaaGreatDoor
open Go.RowKit
theorem bk_setN {w:World} {g:Nat} {t:TypeId} {l:List Nat} (h:Bk w g t (natsV l).toArray) (i x:Nat):Bk (w.setCell ⟨g,i,none⟩ (.int .i64 x)) g t (natsV (l.set i x)).toArray:=by
 have:=h.set_ i (.int .i64 (x:Nat))
 rw [List.setIfInBounds_toArray,show (Value.int .i64 (x:Nat)) = (fun (x:Nat) => Value.int .i64 x) x from rfl] at this
 unfold natsV at this ⊢
 rw [List.map_set]
 exact this
theorem bk_getN {w:World} {g:Nat} {t:TypeId} {l:List Nat} (h:Bk w g t (natsV l).toArray) {i x:Nat} (hx:l[i]? = some x):w.cell? ⟨g,i,none⟩ = some (.int .i64 x):=by
 rw [h.cell i,List.getElem?_toArray]
 unfold natsV
 rw [List.getElem?_map,hx];rfl
theorem keep_callR {w w1:World} {p:Addr} {v:Value} (hb:Below w.heap.size w w1) (h:w.cell? p = some v):w1.cell? p = some v:=(hb.cell (World.block_lt_of_cell? w _ h)).trans h
theorem three_new (w:World) (t0 t1:TypeId) (c0 c1:Array Value) :
 Bk (((w.alloc (.cells c0 t0)).alloc (.cells c1 t1)).drew) w.heap.size t0 c0 ∧
 Bk (((w.alloc (.cells c0 t0)).alloc (.cells c1 t1)).drew) (w.heap.size + 1) t1 c1 ∧
 Below w.heap.size w (((w.alloc (.cells c0 t0)).alloc (.cells c1 t1)).drew) :=
 ⟨((Bk.new w t0 c0).alloc _).drew,(Bk.new1 w _ t1 c1).drew,(((Below.refl _ w).alloc (Nat.le_refl _) _).alloc (by simp) _).drew⟩
set_option maxHeartbeats 16000000 in
theorem refLengths_any (A:Option Addr) (ws:List Int) (ca:Nat) (lim:Int) (w:World) (hA:Rd w w.heap.size A (ws.map (.int .u64))) (hla:ws.length ≤ 9223372036854775807) (hws:∀ x ∈ ws,0 ≤ x) (hlim:I64 lim) (h40:ws.length ≤ 300 ∨ 512 < ws.length) :
 Calls Tryz.prog 107 #[.slice A ws.length ca,.int .i64 lim] w (LenP ws lim w):=by
 obtain ⟨l1,l2⟩:=hlim
 have al:=refRight_any A ws ca w hA hla
 have HA:=hide hA
 by_cases ha:alphaB ws = true
 · obtain ⟨h512,hmax⟩:=alphaB_at ha
   rw [ha] at al
   have HAl:=hide al
   by_cases hl:1 ≤ lim ∧ lim ≤ 15
   · obtain ⟨L,rfl⟩:=Int.eq_ofNat_of_zero_le (show 0 ≤ lim by omega)
     have g1:1 ≤ L:=by omega
     have g2:L ≤ 15:=by omega
     have hpow:2 ^ L ≤ 2 ^ 15:=Nat.pow_le_pow_right (by omega) g2
     obtain ⟨P,hP⟩:∃ P:Nat,2 ^ L = P:=⟨_,rfl⟩
     have hP':(2:Int) ^ L = P:=by rw [← hP,Int.natCast_pow];rfl
     rw [hP] at hpow
     have hsl:=sym_len ws
     obtain ⟨N,hN⟩:∃ N,N = (symL ws).length:=⟨_,rfl⟩
     have hW:packW ws L = if P < N then 8 else 0:=by
      unfold packW
      rw [if_pos ⟨ha,hl.1,hl.2⟩,Int.toNat_natCast,hP,← hsl,← hN]
     have hNl:N ≤ ws.length:=by rw [hN,hsl];exact ordL_length ws
     have sy:=refSyms_any A ws ca w hA h512 hws
     rw [← hN] at sy
     have hmk:=run_make_row' (P:=Tryz.prog) 74 3 (.int .i64 0) 8 Tryz.underlying74 info_int rfl .i64 .i64 ws.length (by omega) (by omega)
     have dl1:decide ((L:Int) < 1) = false:=decide_eq_false (by omega)
     have dl2:decide ((15:Int) < (L:Int)) = false:=decide_eq_false (by omega)
     have HSy:=hide sy
     have HW:=hide hW
     have HP:=hide hP
     have HN:=hide hN
     have HM:=hide (And.intro hmax hws)
     have HLe:=hide (refL_eq hws g1)
     clear al sy hW hP hN hmax hws hA ha hl hsl
     by_cases gP:P < N
     · have hW:=HW.out
       rw [if_pos gP] at hW
       have HW2:=hide hW
       clear hW
       have dP:decide ((P:Int) < (N:Int)) = true:=decide_eq_true (by omega)
       go_enter Tryz.func107,Tryz.ntmps107
       go_wp2_with (first | (go_at_call 148;refine (Calls.mono HAl.out ?_);rintro e w1 ⟨rfl,hww⟩;replace hww:=hww.symm;subst hww) | (go_at_call 149;refine (Calls.mono HSy.out ?_);rintro e w1 ⟨O,co,rfl,hO,hOb,hb1⟩;have HO:=hide (And.intro hO hOb);have hz1:=hb1.size;clear hO hOb))
       go_ret2
       exact LenP.bad HW2.out (by decide) hb1
     · have hW:=HW.out
       rw [if_neg gP] at hW
       have HW2:=hide hW
       clear hW
       have dP:decide ((P:Int) < (N:Int)) = false:=decide_eq_false (by omega)
       rcases (show N = 0 ∨ N = 1 ∨ 2 ≤ N by omega) with g0 | g0 | g0
       · subst g0
         have hpl:packL ws L = List.replicate ws.length 0:=by rw [← HLe.out];unfold refL;rw [if_pos HN.out.symm]
         have HPl:=hide hpl
         clear hpl
         go_enter Tryz.func107,Tryz.ntmps107
         go_wp2_with (first | (go_at_call 148;refine (Calls.mono HAl.out ?_);rintro e w1 ⟨rfl,hww⟩;replace hww:=hww.symm;subst hww) | (go_at_call 149;refine (Calls.mono HSy.out ?_);rintro e w1 ⟨O,co,rfl,hO,hOb,hb1⟩;have HO:=hide (And.intro hO hOb);have hz1:=hb1.size;clear hO hOb))
         go_ret2
         refine ⟨hb1.alloc hz1 _,.inl ⟨HW2.out,some ⟨w1.heap.size,0,none⟩,ws.length,rfl, ?_,(fun a ha => by cases ha;exact hz1)⟩⟩
         rw [Int.toNat_natCast,HPl.out]
         exact bk_nats (by rw [zeros_made];exact Bk.new _ _ _)
       · subst g0
         have hpl:packL ws L = (List.replicate ws.length 0).set ((symL ws).getD 0 0) 1:=by rw [← HLe.out];unfold refL;rw [if_neg (by rw [← HN.out];decide),if_pos HN.out.symm]
         obtain ⟨o0,ho0⟩:∃ o0,(symL ws)[0]? = some o0:=⟨(symL ws)[0]'(by rw [← HN.out];decide),by simp [← HN.out]⟩
         have ho1:=(symK_lt (List.mem_of_getElem? ho0)).1
         have hg0:(symL ws).getD 0 0 = o0:=by rw [List.getD_eq_getElem?_getD,ho0];rfl
         rw [hg0] at hpl
         have HPl:=hide hpl
         have HO0:=hide ho0
         clear hpl ho0 hg0
         go_enter Tryz.func107,Tryz.ntmps107
         go_wp2_with (first | (go_at_call 148;refine (Calls.mono HAl.out ?_);rintro e w1 ⟨rfl,hww⟩;replace hww:=hww.symm;subst hww) | (go_at_call 149;refine (Calls.mono HSy.out ?_);rintro e w1 ⟨O,co,rfl,hO,hOb,hb1⟩;obtain ⟨bo,oo,rfl,hbo,co0⟩:=hO 0 (.int .i64 o0) (by rw [List.getElem?_map,HO0.out];rfl);rw [Nat.add_zero] at co0;have HO:=hide (And.intro hO hOb);have hz1:=hb1.size;have kg:=Bk.new w1 3 (madeCells #[.int .i64 0] ws.length);have kf:=kg.free o0;have kc:(w1.alloc (.cells (madeCells #[.int .i64 0] ws.length) 3)).cell? ⟨w1.heap.size,o0,none⟩ = some (.int .i64 0):=(kg.cell o0).trans (by rw [← zeros_made,List.getElem?_toArray];simp [ho1]);have HKg:=hide kg;clear hO hOb kg))
         go_ret2
         refine ⟨hb1.alloc hz1 _,.inl ⟨HW2.out,some ⟨w1.heap.size,0,none⟩,ws.length,rfl, ?_,(fun a ha => by cases ha;exact hz1)⟩⟩
         rw [Int.toNat_natCast,HPl.out]
         refine bk_nats (t:=3) ?_
         rw [← one_made]
         exact Bk.new _ _ _
       · have hN40:N ≤ 300:=by omega
         have dn1:((N:Int) == 1) = false:=by simp;omega
         have dn2:decide ((N:Int) < 2) = false:=decide_eq_false (by omega)
         have hmkN:=run_make_row' (P:=Tryz.prog) 74 3 (.int .i64 0) 8 Tryz.underlying74 info_int rfl .i64 .i64 N (by omega) (by omega)
         go_enter Tryz.func107,Tryz.ntmps107
         go_wp2_with (first | (go_at_call 148;refine (Calls.mono HAl.out ?_);rintro e w1 ⟨rfl,hww⟩;replace hww:=hww.symm;subst hww) | (go_at_call 149;refine (Calls.mono HSy.out ?_);rintro e w1 ⟨O,co,rfl,hO,hOb,hb1⟩;have HO:=hide (And.intro hO hOb);have hz1:=hb1.size;have HB1:=hide hb1;clear hO hOb hb1))
         go_loopw [8,56] (fun v8 vi wr => ∃ (k:Nat) (B:Option Addr) (c:Nat),k ≤ N ∧ vi = .int .i64 k ∧ v8 = .slice B k c ∧ Hid (QOK wr (w1.heap.size + 1) N (leavesK ws k) B c) ∧ Hid (Bk wr w1.heap.size 3 (madeCells #[.int .i64 0] ws.length)) ∧ Below w1.heap.size w1 wr) (fun _ vi _ => N - (intOf vi).toNat)
         case atStart => exact ⟨0,none,0,by omega,rfl,rfl,hide (QOK.nil _ _ _),hide (Bk.new _ _ _),(Below.refl _ w1).alloc (Nat.le_refl _) _⟩
         case round =>
          obtain ⟨k,B,c,hk,rfl,rfl,HQ,HG,hbe⟩:=hrel
          have hsz:=hbe.size
          by_cases hlt:k < N
          · obtain ⟨s,hs⟩:∃ s,(symL ws)[k]? = some s:=⟨(symL ws)[k]'(by have:=HN.out;omega),by simp⟩
            have hsl:=(symK_lt (List.mem_of_getElem? hs)).1
            obtain ⟨x,hx⟩:∃ x,ws[s]? = some x:=⟨ws[s],by simp [hsl]⟩
            have hx0:=HM.out.2 x (List.mem_of_getElem? hx)
            have hxm:=HM.out.1 x (List.mem_of_getElem? hx)
            obtain ⟨x,rfl⟩:=Int.eq_ofNat_of_zero_le hx0
            obtain ⟨bo,oo,rfl,hbo,co0⟩:=HO.out.1 k (.int .i64 s) (by rw [List.getElem?_map,hs];rfl)
            obtain ⟨ba,oa,rfl,hba,cx0⟩:=HA.out s (.int .u64 x) (by rw [List.getElem?_map,hx];rfl)
            have c1:=(hbe.cell (p:=⟨bo,oo + k,none⟩) hbo).trans co0
            have c2:=(hbe.cell (p:=⟨ba,oa + s,none⟩) (by show ba < w1.heap.size;omega)).trans ((HB1.out.cell (p:=⟨ba,oa + s,none⟩) hba).trans cx0)
            have hws':(ws.getD s 0).toNat = x:=by rw [List.getD_eq_getElem?_getD,hx];rfl
            have hit:itemS ws s = ⟨x,(List.replicate N 0).set k 1⟩:=by rw [HN.out,unit_row hs];unfold itemS;rw [hws']
            have hst:=leavesK_succ hs
            rw [hit] at hst
            have HSt:=hide hst
            have hkl:=leavesK_length (ws:=ws) (k:=k) (by rw [← HN.out];exact hk)
            have HKl:=hide hkl
            have hbw:ba < wr.heap.size:=by omega
            have hbw1:ba < wr.heap.size + 1:=by omega
            clear co0 cx0 hs hx hws' hit hst hkl
            go_upto_region 15 with (fail)
            go_cut [11] from 61 to 76 (fun t11 wx => ∃ gX gV,t11 = .pointer (some ⟨gX,0,none⟩) ∧ Bk wx gX 226 #[.int .u64 x,.slice (some ⟨gV,0,none⟩) N N] ∧ Bk wx gV 3 (madeCells #[.int .i64 0] N) ∧ wr.heap.size ≤ gX ∧ wr.heap.size ≤ gV ∧ gX ≠ gV ∧ Below wr.heap.size wr wx)
            case first =>
             go_region
             all_goals go_wp2_with fail
             all_goals go_meet
             case rel =>
              obtain ⟨e0,e1,eb⟩:=three_new wr 3 226 (madeCells #[.int .i64 0] N) #[.int .u64 x,.slice (some ⟨wr.heap.size,0,none⟩) N N]
              exact ⟨wr.heap.size + 1,wr.heap.size,rfl,e1,e0,by omega,by omega,by omega,eb⟩
             case rel =>
              obtain ⟨e0,e1,eb⟩:=three_new wr 226 3 #[.int .u64 x,.slice (some ⟨wr.heap.size + 1,0,none⟩) N N] (madeCells #[.int .i64 0] N)
              exact ⟨wr.heap.size,wr.heap.size + 1,rfl,e0,e1,by omega,by omega,by omega,eb⟩
            case rest =>
             obtain ⟨gX,gV,rfl,kX,kV,hgX,hgV,hne,hbc⟩:=hcut
             have kV2:Bk wc gV 3 (natsV (List.replicate N 0)).toArray:=by
              unfold natsV
              rw [zeros_made];exact kV
             have v0:=bk_getN kV2 (i:=k) (x:=0) (by simp [hlt])
             have v1:=kV2.free k
             have kX3:=kX.far (p:=⟨gV,k,none⟩) hne (.int .i64 ((1:Nat):Int))
             have kV3:=bk_setN kV2 k 1
             obtain ⟨x0,x1⟩:=two_cells kX
             obtain ⟨W3,hW3⟩:∃ W3,W3 = wc.setCell ⟨gV,k,none⟩ (.int .i64 1):=⟨_,rfl⟩
             have hb3:Below wr.heap.size wr W3:=by rw [hW3];exact hbc.setCell (p:=⟨gV,k,none⟩) hgV _
             have kX3:Bk W3 gX 226 #[.int .u64 x,.slice (some ⟨gV,0,none⟩) N N]:=by rw [hW3];exact kX3
             have kV3:Bk W3 gV 3 (natsV ((List.replicate N 0).set k 1)).toArray:=by rw [hW3];exact kV3
             obtain ⟨y0,y1⟩:=two_cells kX3
             rw [hW3] at y0 y1
             have hp:=put_ok (w1.heap.size + 1) N (leavesK ws k) B c x ((List.replicate N 0).set k 1) (some ⟨gV,0,none⟩) N W3 (HQ.out.below hb3) (by have:=HG.out.lt;have:=hb3.size;omega) (fun a ha => by cases ha;have:=HG.out.lt;show w1.heap.size + 1 ≤ gV;omega) (leavesK_sorted ws k) (by rw [HKl.out];omega) (by simp) (bkRdQ kV3)
             rw [HKl.out,← HSt.out,hW3] at hp
             have HPu:=hide hp
             have HB3:=hide hb3
             rw [hW3] at HB3
             have hs3:=hb3.size
             have hs4:=kV.lt
             rw [hW3] at hs3
             clear hW3 kX3 kV3 hp hb3 kV kV2 kX hbc
             go_wp2_with (first | (go_at_call 150;refine (Calls.mono HPu.out ?_);rintro e w5 ⟨A5,c5,rfl,hq5,hb5⟩;have HQ5:=hide hq5;have HB5:=hide hb5;have hs5:=hb5.size;clear hq5 hb5))
             go_roundw
             case rel =>
              have b5:Below wr.heap.size wr w5:=HB3.out.trans (HB5.out.mono hs3)
              exact ⟨k + 1,A5,c5,by omega,by go_num,by first | rfl | go_num,HQ5,hide (HG.out.below b5 HG.out.lt),hbe.trans (b5.mono hsz)⟩
             case measure => simp [intOf];omega
          · obtain rfl:k = N:=by omega
            obtain ⟨lv,hlv⟩:∃ lv,lv = leavesP ws:=⟨_,rfl⟩
            have hLK:leavesK ws k = lv:=by rw [HN.out,leavesK_all,hlv]
            rw [hLK] at HQ
            have hF:∀ j,j ≤ 14 → SortedP (levP lv j) ∧ (levP lv j).length ≤ 2 * k ∧ ∀ x ∈ levP lv j,x.w ≤ 36028797018963968 ∧ x.v.length = k ∧ ∀ y ∈ x.v,y ≤ 1048576:=fun j hj => by
             rw [hlv,HN.out];exact lev_facts HM.out.2 HM.out.1 hj
            have hlvl:lv.length = k:=by rw [← hLK];exact leavesK_length (by rw [← HN.out];exact Nat.le_refl _)
            have HF:=hide hF
            have HLv:=hide hlv
            have HLl:=hide hlvl
            obtain ⟨c0',hc0'⟩:∃ c',c' = c:=⟨_,rfl⟩
            clear hF hlv hLK hlvl
            go_wp2_with fail
            go_loopw [12,13] (fun v12 vj wq => ∃ (j n:Nat) (Aj:Option Addr) (cj:Nat),1 ≤ j ∧ j ≤ L ∧ vj = .int .i64 j ∧ v12 = .slice Aj n cj ∧ Hid (n = (levP lv (j - 1)).length) ∧ Hid (QOK wq (w1.heap.size + 1) k (levP lv (j - 1)) Aj cj) ∧ Hid (QOK wq (w1.heap.size + 1) k lv B c) ∧ Hid (Bk wq w1.heap.size 3 (madeCells #[.int .i64 0] ws.length)) ∧ Below w1.heap.size w1 wq) (fun _ vj _ => L - (intOf vj).toNat)
            case atStart => exact ⟨1,k,B,c,by omega,g1,rfl,rfl,hide HLl.out.symm,HQ,HQ,HG,hbe⟩
            case round =>
             clear HQ HG hbe hsz
             obtain ⟨j,n,Aj,cj,hj1,hj2,rfl,rfl,HNj,HQj,HQl,HG,hbe⟩:=hrel
             have hsz:=hbe.size
             by_cases hjL:j < L
             · have djL:decide ((j:Int) < (L:Int)) = true:=decide_eq_true (by omega)
               obtain ⟨hs1,hs2,hs3⟩:=HF.out (j - 1) (by omega)
               obtain ⟨lj,hlj⟩:∃ lj,lj = levP lv (j - 1):=⟨_,rfl⟩
               rw [← hlj] at HNj HQj hs1 hs2 hs3
               have HS3:=hide hs3
               have hn80:n ≤ 600:=by have:=HNj.out;omega
               have hls:SortedP lv:=(HF.out 0 (by omega)).1
               have HLs:=hide hls
               have HLj:=hide hlj
               clear hs1 hs2 hs3 hlj hls
               go_wp2_with fail
               go_loopw [14,15] (fun v14 vi wr => ∃ (q i m:Nat) (Aq:Option Addr) (cq:Nat),i ≤ n ∧ m = k + q ∧ i = 2 * q ∧ vi = .int .i64 i ∧ v14 = .slice Aq m cq ∧ Hid (QOK wr (w1.heap.size + 1) k (putsP lv ((pairsP lj).take q)) Aq cq) ∧ Hid (QOK wr (w1.heap.size + 1) k lj Aj cj) ∧ Hid (QOK wr (w1.heap.size + 1) k lv B c) ∧ Hid (Bk wr w1.heap.size 3 (madeCells #[.int .i64 0] ws.length)) ∧ Below w1.heap.size w1 wr) (fun _ vi _ => n - (intOf vi).toNat)
               case atStart => exact ⟨0,0,k,B,c,by omega,rfl,rfl,rfl,rfl,HQl,HQj,HQl,HG,hbe⟩
               case round =>
                clear HQj HQl HG hbe hsz
                obtain ⟨q,i,m,Aq,cq,hi,hm,hiq,rfl,rfl,HQq,HQj,HQl,HG,hbe⟩:=hrel
                have hsz:=hbe.size
                have HIq:=hide (And.intro hiq hm)
                have hmb:m ≤ 600:=by omega
                clear hiq hm
                by_cases hin:i + 1 < n
                · obtain ⟨i1,hi1⟩:∃ i1,i1 = i + 1:=⟨_,rfl⟩
                  have hiI:(i:Int) + 1 = (i1:Int):=by omega
                  have hi1n:i1 < n:=by omega
                  have hi1w:IntKind.i64.wrap (i1:Int) = (i1:Int):=IntWalk.i64_in _ ⟨by omega,by omega⟩
                  have hi1b:i1 ≤ i + 1:=by omega
                  have hi1c:i + 1 ≤ i1:=by omega
                  have din:decide ((i1:Int) < (n:Int)) = true:=decide_eq_true (by omega)
                  obtain ⟨a,hxa⟩:∃ a,lj[i]? = some a:=⟨lj[i]'(by have:=HNj.out;omega),by simp⟩
                  obtain ⟨b,hxb⟩:∃ b,lj[i1]? = some b:=⟨lj[i1]'(by have:=HNj.out;omega),by simp⟩
                  obtain ⟨ba,oa,A1,c1,rfl,hba,_,a0,a1,ra,_,la⟩:=HQj.out.at_ hxa
                  obtain ⟨bb,ob,A2,c2,he,hbb,_,b0,b1,rb,_,lb⟩:=HQj.out.at_ hxb
                  simp only [Option.some.injEq,Addr.mk.injEq,and_true] at he
                  obtain ⟨rfl,rfl⟩:=he
                  obtain ⟨wa1,_,va1⟩:=HS3.out a (List.mem_of_getElem? hxa)
                  obtain ⟨wb1,_,vb1⟩:=HS3.out b (List.mem_of_getElem? hxb)
                  have hpg:=pairsP_get q (l:=lj) (a:=a) (b:=b) (by rw [← HIq.out.1];exact hxa) (by rw [← HIq.out.1,← hi1];exact hxb)
                  have HPg:=hide hpg
                  have bo:=fun (W:World) (hW:Below wr.heap.size wr W) => both_ok a.w b.w k a.v b.v A1 A2 c1 c2 W la lb ((ra.below hW).more hW.size) ((rb.below hW).more hW.size) (by omega) (by omega) va1 vb1
                  have HBo:=hide bo
                  clear hxa hxb ra rb la lb va1 vb1 bo hpg wa1 wb1
                  have hpl:(pairsP lj).length = n / 2:=by rw [pairsP_length _ (Nat.le_refl _),HNj.out]
                  have hml:(putsP lv ((pairsP lj).take q)).length = m:=by have:=HIq.out;rw [putsP_length,HLl.out,List.length_take];omega
                  have hin1:i < n:=by omega
                  have hin2:(i:Int) < (n:Int):=by omega
                  have hin3:(i1:Int) < (n:Int):=by omega
                  have htk:(pairsP lj).take (q + 1) = (pairsP lj).take q ++ [bothP a b]:=by rw [List.take_add_one,HPg.out];rfl
                  have HMl:=hide hml
                  have HTk:=hide htk
                  clear hpl hml htk hi1 hin
                  go_wp2_with fail
                  go_region_held3 (fun w' => w'.cell? ⟨ba,oa + i * 2,none⟩ = some (.int .u64 a.w) ∧ w'.cell? ⟨ba,oa + i * 2 + 1,none⟩ = some (.slice A1 k c1) ∧ w'.cell? ⟨ba,oa + i1 * 2,none⟩ = some (.int .u64 b.w) ∧ w'.cell? ⟨ba,oa + i1 * 2 + 1,none⟩ = some (.slice A2 k c2))
                   (first | exact ⟨a0,a1,b0,b1⟩ | go_keep | exact ⟨keep_callR hb6 a0,keep_callR hb6 a1,keep_callR hb6 b0,keep_callR hb6 b1⟩ | exact ⟨keep_callR HB7.out a0,keep_callR HB7.out a1,keep_callR HB7.out b0,keep_callR HB7.out b1⟩)
                   (first
                   | (go_at_call 151;refine (Calls.mono (HBo.out _ (Below.refl _ wr).drew) ?_);rintro e w5 ⟨g,rfl,hr5,hl5,hg5,hb5⟩;have hb6:Below wr.heap.size wr w5:=(Below.refl _ wr).drew.trans (hb5.mono (Nat.le_refl _));have hp:=put_ok (w1.heap.size + 1) k (putsP lv ((pairsP lj).take q)) Aq cq (a.w + b.w) (bothP a b).v (some ⟨g,0,none⟩) k w5 (HQq.out.below hb6) (by have:=HG.out.lt;have:=hb6.size;omega) (fun a ha => by cases ha;have:=HG.out.lt;have h9:wr.heap.size ≤ g:=hg5;show w1.heap.size + 1 ≤ g;omega) (putsP_sorted HLs.out) (by rw [HMl.out];omega) hl5 hr5;rw [HMl.out] at hp;have HPu:=hide hp;have HB6:=hide hb6;have hs6:=hb6.size;clear hp hb5 hr5 hl5)
                   | (go_at_call 150;refine (Calls.mono HPu.out ?_);rintro e w7 ⟨A7,c7,rfl,hq7,hb7⟩;have HQ7:=hide hq7;have HB7:=hide (HB6.out.trans (hb7.mono hs6));have hs7:=hb7.size;clear hq7 hb7))
                  go_wp2_with fail
                  go_roundw
                  case rel =>
                   exact ⟨q + 1,i + 2,m + 1,A7,c7,by omega,by have:=HIq.out;omega,by have:=HIq.out;omega,by go_num,by first | rfl | go_num,hide (by rw [HTk.out,putsP_snoc];exact HQ7.out),hide (HQj.out.below HB7.out),hide (HQl.out.below HB7.out),hide (HG.out.below HB7.out HG.out.lt),hbe.trans (HB7.out.mono hsz)⟩
                  case measure => simp [intOf];omega
                · have din:decide ((i:Int) + 1 < (n:Int)) = false:=decide_eq_false (by omega)
                  have hpl:(pairsP lj).length = n / 2:=by rw [pairsP_length _ (Nat.le_refl _),HNj.out]
                  have hall:putsP lv ((pairsP lj).take q) = levP lv j:=by
                   rw [List.take_of_length_le (by have:=HIq.out;omega),HLj.out,puts_next,Nat.sub_add_cancel hj1]
                  have hml:m = (levP lv j).length:=by rw [← hall,putsP_length,HLl.out,List.length_take];have:=HIq.out;omega
                  have HAll:=hide hall
                  have HMl:=hide hml
                  clear hpl hall hml
                  go_wp2_with fail
                  go_roundw
                  case rel =>
                   exact ⟨j + 1,m,Aq,cq,by omega,by omega,by go_num,rfl,hide HMl.out,hide (by show QOK _ _ _ (levP lv j) _ _;rw [← HAll.out];exact HQq.out),HQl,HG,hbe⟩
                  case measure => simp [intOf];omega
             · obtain rfl:j = L:=by omega
               have djL:decide ((j:Int) < (j:Int)) = false:=decide_eq_false (by omega)
               obtain ⟨lj,hlj⟩:∃ lj,lj = levP lv (j - 1):=⟨_,rfl⟩
               obtain ⟨hs1,hs2,hs3⟩:=HF.out (j - 1) (by omega)
               rw [← hlj] at HNj HQj hs1 hs2 hs3
               have hn80:n ≤ 600:=by have:=HNj.out;omega
               obtain ⟨M,hM⟩:∃ M,M = 2 * k - 2:=⟨_,rfl⟩
               obtain ⟨K2,hK2⟩:∃ K2,K2 = 2 * k:=⟨_,rfl⟩
               have hK2I:2 * (k:Int) = (K2:Int):=by omega
               have hM1:(K2:Int) - 2 = (M:Int):=by omega
               have hK2b:K2 ≤ 600:=by omega
               have hMn:M ≤ n:=by
                have h1:=lvl_last (lw:=lwL ws) (L:=j) (by rw [lwL_length,← sym_len,← HN.out,HP.out];omega) g1
                rw [lwL_length,← sym_len,← HN.out,← hM] at h1
                rw [HNj.out,hlj,HLv.out,lev_length (lwL_sorted ws) (leavesP_w HM.out.2)];exact h1
               have hcap:M ≤ cj:=by have:=HQj.out.cap;have:=HNj.out;omega
               have hkw:IntKind.i64.wrap (K2:Int) = (K2:Int):=IntWalk.i64_in _ ⟨by omega,by omega⟩
               have hMw:IntKind.i64.wrap (M:Int) = (M:Int):=IntWalk.i64_in _ ⟨by omega,by omega⟩
               have hpl:packL ws j = outL (symL ws) (lj.take M) (List.replicate ws.length 0):=by
                rw [← HLe.out];unfold refL;rw [if_neg (by rw [← HN.out];omega),if_neg (by rw [← HN.out];omega),hlj,HLv.out,← HN.out,hM]
               have HPl:=hide hpl
               have HS3:=hide hs3
               have hsym:∀ x ∈ symL ws,x < (List.replicate ws.length 0).length:=fun x hx => by rw [List.length_replicate];exact (symK_lt hx).1
               have HSym:=hide hsym
               obtain ⟨x0,hx0⟩:∃ x0,lj[0]? = some x0:=⟨lj[0]'(by have:=HNj.out;omega),by simp⟩
               obtain ⟨ba,oa,_,_,rfl,hba,hlo,_,_,_,_,_⟩:=HQj.out.at_ hx0
               have hbo0:∃ bo oo,O = some ⟨bo,oo,none⟩:=by
                obtain ⟨bo,oo,e,_⟩:=HO.out.1 0 (.int .i64 ((symL ws)[0]'(by have:=HN.out;omega))) (by rw [List.getElem?_map,List.getElem?_eq_getElem (by have:=HN.out;omega)];rfl)
                exact ⟨bo,oo,e⟩
               obtain ⟨bo,oo,rfl⟩:=hbo0
               have hM0:0 < M:=by omega
               clear hM hK2 hs1 hs2 hs3 hpl hlj hsym hx0
               go_wp2_with fail
               have hgo:=HG.out.lt
               have HBe:=hide hbe
               go_loopw [111] (fun vt wx => ∃ t:Nat,t ≤ M ∧ vt = .int .i64 t ∧ Hid (Bk wx w1.heap.size 3 (natsV (outL (symL ws) (lj.take t) (List.replicate ws.length 0))).toArray) ∧ Hid (Fr (fun q => q = w1.heap.size) wr wx)) (fun vt _ => M - (intOf vt).toNat)
               case atStart => exact ⟨0,by omega,rfl,hide (by rw [List.take_zero];show Bk _ _ _ ((List.replicate ws.length 0).map _).toArray;rw [zeros_made];exact HG.out),hide (Fr.refl _ _)⟩
               case round =>
                clear hbe
                obtain ⟨t,ht,rfl,HOut,HFr⟩:=hrel
                have hszr:=HFr.out.size
                by_cases htM:t < M
                · have dt:decide ((t:Int) < (M:Int)) = true:=decide_eq_true (by omega)
                  obtain ⟨x,hx⟩:∃ x,lj[t]? = some x:=⟨lj[t]'(by have:=HNj.out;omega),by simp⟩
                  obtain ⟨_,_,A1,c1,he,_,_,a0,a1,ra,hA1,la⟩:=HQj.out.at_ hx
                  simp only [Option.some.injEq,Addr.mk.injEq,and_true] at he
                  obtain ⟨rfl,rfl⟩:=he
                  obtain ⟨_,_,hvx⟩:=HS3.out x (List.mem_of_getElem? hx)
                  have d0:=HFr.out.cell (p:=⟨ba,oa + t * 2,none⟩) (by show ¬ ba = w1.heap.size;omega) a0
                  have d1:=HFr.out.cell (p:=⟨ba,oa + t * 2 + 1,none⟩) (by show ¬ ba = w1.heap.size;omega) a1
                  have htn:t < n:=by omega
                  have htk:lj.take (t + 1) = lj.take t ++ [x]:=by rw [List.take_add_one,hx];rfl
                  have HTk:=hide htk
                  obtain ⟨ol,hol⟩:∃ ol,ol = outL (symL ws) (lj.take t) (List.replicate ws.length 0):=⟨_,rfl⟩
                  have holl:ol.length = ws.length:=by rw [hol,outL_length];simp
                  have hob:∀ i,ol.getD i 0 ≤ 0 + (lj.take t).length * 1048576:=by
                   rw [hol]
                   refine outL_le (symL_nodup ws) HSym.out (fun i => by rw [zeros_getD];exact Nat.le_refl _) (fun y hy i => ?_)
                   have hv:=(HS3.out y (List.mem_of_mem_take hy)).2.2
                   unfold atV
                   rw [List.getD_eq_getElem?_getD]
                   rcases Nat.lt_or_ge i y.v.length with g | g
                   · rw [List.getElem?_eq_getElem g];exact hv _ (List.getElem_mem g)
                   · rw [List.getElem?_eq_none g];exact Nat.zero_le _
                  have hob2:∀ i,ol.getD i 0 ≤ 629145600:=fun i => by
                   have:=hob i
                   rw [List.length_take] at this
                   have:(min t lj.length) * 1048576 ≤ 600 * 1048576:=Nat.mul_le_mul_right _ (by omega)
                   omega
                  rw [← hol] at HOut
                  have HOb:=hide hob2
                  have HOl:=hide holl
                  have HOd:=hide hol
                  have HRa:=hide (And.intro ra hA1)
                  have HLa:=hide la
                  have HVx:=hide hvx
                  clear hx a0 a1 ra hA1 la hvx htk hol holl hob hob2
                  go_wp2_with fail
                  go_loopw [117] (fun vq wx => ∃ q:Nat,q ≤ k ∧ vq = .int .i64 q ∧ Hid (Bk wx w1.heap.size 3 (natsV (addK (symL ws) x.v q ol)).toArray) ∧ Hid (Bk wx wr.heap.size 226 #[.int .u64 x.w,.slice A1 k c1]) ∧ Hid (Fr (fun q => q = w1.heap.size) wr wx)) (fun vq _ => k - (intOf vq).toNat)
                  case atStart => exact ⟨0,by omega,rfl,hide (HOut.out.alloc _),hide (Bk.new _ _ _),hide ((Fr.refl _ wr).alloc _)⟩
                  case round =>
                   obtain ⟨q,hq,rfl,HOut5,KX,HF5⟩:=hrel
                   obtain ⟨x0,x1⟩:=two_cells KX.out
                   have hsz5:=HF5.out.size
                   by_cases hqk:q < k
                   · have dq:decide ((q:Int) < (k:Int)) = true:=decide_eq_true (by omega)
                     obtain ⟨s,hs⟩:∃ s,(symL ws)[q]? = some s:=⟨(symL ws)[q]'(by have:=HN.out;omega),by simp⟩
                     obtain ⟨y,hy⟩:∃ y,x.v[q]? = some y:=⟨x.v[q]'(by have:=HLa.out;omega),by simp⟩
                     have hsl:=(symK_lt (List.mem_of_getElem? hs)).1
                     have hyb:=HVx.out y (List.mem_of_getElem? hy)
                     obtain ⟨_,_,he,hbo,co0⟩:=HO.out.1 q (.int .i64 s) (by rw [List.getElem?_map,hs];rfl)
                     simp only [Option.some.injEq,Addr.mk.injEq,and_true] at he
                     obtain ⟨rfl,rfl⟩:=he
                     obtain ⟨b1,o1,he1,hb1,cv0⟩:=HRa.out.1 q (.int .i64 y) (by unfold natsV;rw [List.getElem?_map,hy];rfl)
                     subst he1
                     have hlo1:=HRa.out.2 _ rfl
                     have co1:=HF5.out.cell (p:=⟨bo,oo + q,none⟩) (by show ¬ bo = w1.heap.size;omega) (HFr.out.cell (p:=⟨bo,oo + q,none⟩) (by show ¬ bo = w1.heap.size;omega) ((HBe.out.cell (p:=⟨bo,oo + q,none⟩) hbo).trans co0))
                     have cv1:=HF5.out.cell (p:=⟨b1,o1 + q,none⟩) (by show ¬ b1 = w1.heap.size;have h9:w1.heap.size + 1 ≤ b1:=hlo1;omega) (HFr.out.cell (p:=⟨b1,o1 + q,none⟩) (by show ¬ b1 = w1.heap.size;have h9:w1.heap.size + 1 ≤ b1:=hlo1;omega) cv0)
                     obtain ⟨ak,hak⟩:∃ ak,ak = addK (symL ws) x.v q ol:=⟨_,rfl⟩
                     have hakl:ak.length = ws.length:=by rw [hak,addK_length,HOl.out]
                     have hab:=addK_le (symL_nodup ws) (s:=symL ws) (v:=x.v) (o:=ol) (B:=629145600) (M:=1048576) (fun z hz => by rw [HOl.out];exact (symK_lt hz).1) HOb.out (fun i => by
                      rw [List.getD_eq_getElem?_getD]
                      rcases Nat.lt_or_ge i x.v.length with g | g
                      · rw [List.getElem?_eq_getElem g];exact HVx.out _ (List.getElem_mem g)
                      · rw [List.getElem?_eq_none g];exact Nat.zero_le _) (k:=q) (by rw [← HN.out];omega) s
                     obtain ⟨u,hu⟩:∃ u,ak[s]? = some u:=⟨ak[s]'(by omega),by simp⟩
                     rw [← hak] at HOut5 hab
                     have hud:ak.getD s 0 = u:=by rw [List.getD_eq_getElem?_getD,hu];rfl
                     rw [hud] at hab
                     have hst:addK (symL ws) x.v (q + 1) ol = ak.set s (u + y):=by
                      rw [addK_succ,← hak,List.getD_eq_getElem?_getD (l:=symL ws),hs,List.getD_eq_getElem?_getD (l:=x.v),hy]
                      show ak.set s (ak.getD s 0 + y) = _
                      rw [hud]
                     have c3:=bk_getN HOut5.out hu
                     have f3:=HOut5.out.free s
                     obtain ⟨z,hz⟩:∃ z,z = u + y:=⟨_,rfl⟩
                     have hzI:(u:Int) + (y:Int) = (z:Int):=by omega
                     have hzb:z ≤ 700000000:=by omega
                     rw [← hz] at hst
                     have HSt:=hide hst
                     clear hs hy co0 cv0 hak hab hu hud hst hz hakl hlo1
                     go_wp2_with fail
                     go_region
                     go_wp2_with fail
                     go_roundw
                     case rel =>
                      refine ⟨q + 1,by omega,by go_num,hide ?_,hide ?_,hide ?_⟩
                      · rw [HSt.out];exact (bk_setN HOut5.out s z).drew
                      · exact (KX.out.far (by show _ ≠ w1.heap.size;omega) _).drew
                      · exact (HF5.out.setCell (.inl rfl) _).drew
                     case measure => simp [intOf];omega
                   · obtain rfl:q = k:=by omega
                     have dq:decide ((q:Int) < (q:Int)) = false:=decide_eq_false (by omega)
                     go_wp2_with fail
                     go_roundw
                     case rel =>
                      refine ⟨t + 1,by omega,by go_num,hide ?_,hide (HFr.out.trans HF5.out (fun g hg => .inl hg))⟩
                      rw [HTk.out,outL_snoc,← HOd.out,← HN.out];exact HOut5.out
                     case measure => simp [intOf];omega
                · obtain rfl:t = M:=by omega
                  have dt:decide ((t:Int) < (t:Int)) = false:=decide_eq_false (by omega)
                  go_wp2_with fail
                  go_ret2
                  have b9:Below w1.heap.size w1 wr:=HBe.out.trans (HFr.out.toBelowB (by rintro q rfl;exact Nat.le_refl _) (by omega))
                  refine ⟨HB1.out.trans (b9.mono hz1),.inl ⟨HW2.out,some ⟨w1.heap.size,0,none⟩,ws.length,rfl, ?_,(fun a ha => by cases ha;exact hz1)⟩⟩
                  rw [Int.toNat_natCast,HPl.out]
                  exact bk_nats HOut.out
   · have hW:packW ws lim = 1:=by unfold packW;rw [if_neg (fun h => hl h.2)]
     have HW:=hide hW
     have hd:(decide (lim < 1) || decide ((15:Int) < lim)) = true:=by
      by_cases h1:lim < 1
      · rw [decide_eq_true h1];rfl
      · rw [decide_eq_true (show (15:Int) < lim by omega),Bool.or_true]
     clear al hW ha hA
     by_cases h1:lim < 1
     · have d1:decide (lim < 1) = true:=decide_eq_true h1
       go_enter Tryz.func107,Tryz.ntmps107
       go_wp2_with (first | (go_at_call 148;refine (Calls.mono HAl.out ?_);rintro e w1 ⟨rfl,hww⟩;replace hww:=hww.symm;subst hww))
       go_ret2
       exact LenP.bad HW.out (by decide) (Below.refl _ _)
     · have d1:decide (lim < 1) = false:=decide_eq_false h1
       have d2:decide ((15:Int) < lim) = true:=decide_eq_true (by omega)
       go_enter Tryz.func107,Tryz.ntmps107
       go_wp2_with (first | (go_at_call 148;refine (Calls.mono HAl.out ?_);rintro e w1 ⟨rfl,hww⟩;replace hww:=hww.symm;subst hww))
       go_ret2
       exact LenP.bad HW.out (by decide) (Below.refl _ _)
 · have ha':alphaB ws = false:=by simpa using ha
   have hW:packW ws lim = 1:=by unfold packW;rw [if_neg (fun h => ha h.1)]
   rw [ha'] at al
   have HAl:=hide al
   have HW:=hide hW
   clear al hW ha ha' hA
   go_enter Tryz.func107,Tryz.ntmps107
   go_wp2_with (first | (go_at_call 148;refine (Calls.mono HAl.out ?_);rintro e w1 ⟨rfl,hww⟩;replace hww:=hww.symm;subst hww))
   go_ret2
   exact LenP.bad HW.out (by decide) (Below.refl _ _)
end Go.Proofs.YtcfnjpokfodmoaaGreatDoor
