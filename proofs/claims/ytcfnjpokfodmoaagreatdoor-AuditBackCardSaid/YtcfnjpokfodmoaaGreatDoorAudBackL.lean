/- Walk: the law AuditBack. -/
import Derived.Test.YtcfnjpokfodmoaaGreatDoorM46
set_option maxRecDepth 100000
namespace Go.Proofs.YtcfnjpokfodmoaaGreatDoor
open Go.RowKit
theorem rd_apart {w:World} {g:Nat} {t:TypeId} {cs:Array Value} {B:Nat} {A:Option Addr} {xs:List Value} (hk:Bk w g t cs) (h:Rd w B A xs) (hne:∀ u ∈ xs,u ∉ cs.toList) (i:Nat) (v:Value):Rd (w.setCell ⟨g,i,none⟩ v) B A xs:=fun j u hu => by
 obtain ⟨b,o,e,hb,hc⟩:=h j u hu
 refine ⟨b,o,e,hb, ?_⟩
 by_cases hbg:b = g
 · subst hbg
   rw [hk.cell] at hc
   exact absurd (List.mem_of_getElem? (by rw [Array.getElem?_toList];exact hc)) (hne u (List.mem_of_getElem? hu))
 · exact ((Fr.refl (fun k => k = g) w).setCell (p:=⟨g,i,none⟩) (.inl rfl) v).cell (p:=⟨b,o + j,none⟩) hbg hc
theorem flat6_not (ls:List (List Nat)) (x0 x1 x2 x3 x4:Nat):∀ u ∈ flat6 ls,u ∉ (#[.int .u64 x0,.int .u64 x1,.int .u32 x2,.int .u64 x3,.int .u64 x4]:Array Value).toList:=fun u hu => by
 obtain ⟨l,_,hu⟩:=List.mem_flatMap.1 hu
 obtain ⟨x,_,rfl⟩:=List.mem_map.1 hu
 simp
theorem rd_ofL {R:ByteArray} {W:World} {ls:List (List Nat)} {x0 x1 x3 x4:Nat} (hR:R.size ≤ 1048576) (h:readL (strL R) = some (ls,[x0,x1,x3,x4])) :
 Calls Tryz.prog 22 #[.string R] W fun e w' => (∃ A c,e = .returned (.tuple #[.slice A ls.length c,.agg #[.int .u64 x0,.int .u64 x1,.int .u32 0,.int .u64 x3,.int .u64 x4],.int .i64 0]) ∧ Rd w' w'.heap.size A (flat6 ls)) ∧ Below W.heap.size W w':=by
 refine Calls.mono (aread_any R W hR) ?_
 rintro e w' ⟨h' | ⟨A,c,ls',hh,h1,h2,h3,h4,rfl,h5⟩,hb⟩
 · rw [h] at h';cases h'.1
 · rw [h] at h1
   obtain ⟨rfl,rfl⟩:=Prod.mk.inj (Option.some.inj h1)
   exact ⟨⟨A,c,rfl,h5⟩,hb⟩
set_option maxHeartbeats 8000000 in
theorem back31_any (s:ByteArray) (q0 q1:Addr) (w:World) (hS:Sent2 w q0 q1) (hT:ErrT w) (hP:Pow10 w):Calls Tryz.prog 9 #[.string s] w fun e w' => e = .returned (.bool true) ∧ Below w.heap.size w w':=by
 have li:=lives31 q0 q1 w hS hT hP
 have HLi:=hide li
 clear li
 by_cases hbig:1500 < s.size
 · have d0:(1500:Int) < (s.size:Int):=by omega
   clear hS hT hP hbig
   go_enter Tryz.func9,Tryz.ntmps9
   go_wp2_with (go_at_call 24;refine (Calls.mono HLi.out ?_);rintro e w1 ⟨rfl,hb1⟩;have HB1:=hide hb1;clear hb1)
   go_ret
   exact ⟨rfl,HB1.out⟩
 · have d0:¬ (1500:Int) < (s.size:Int):=by omega
   have rp:=fun (W:World) (hW:Below w.heap.size w W) => report_any s q0 q1 W (hS.below hW (Nat.le_refl _)) (hT.keep hW) (hP.below hW) (by omega)
   obtain ⟨z,t,hR⟩:∃ z t,openR (strL s) = (z,t):=⟨_,_,rfl⟩
   by_cases hz:z = 0
   · subst hz
     obtain ⟨ls,g1,g2,g3,g4,g5,g6,g7,g8,g9,g10⟩:=opened_all hR
     have sg:=fun (W:World) (hW:Below w.heap.size w W) => segments_any s q0 q1 W (hS.below hW (Nat.le_refl _)) (hT.keep hW) (by omega)
     have hd:=fun (W:World) (hW:Below w.heap.size w W) => headN_any s W (by omega) (hT.keep hW)
     unfold headH at hd
     rw [if_pos g7,g7] at hd
     have hfl:=fields_lt (s:=strL s) (strL_lt s) (by have:=(headW_zero g7).1;omega)
     have h6:∀ l ∈ ls,l.length = 6:=fun l hl => (good_lt (g2 l hl)).1
     have hll:∀ l ∈ ls,l.length = 6 ∧ ∀ n ∈ l,n < 1000000000000000:=fun l hl => good_lt (g2 l hl)
     have rp2:∀ (W:World),Below w.heap.size w W → Calls Tryz.prog 27 #[.string s] W fun e w' => e = .returned (.tuple #[.string (strOf (repL ls (four (fieldsL (strL s))))),.int .i64 0]) ∧ Below W.heap.size W w':=fun W hW => by
      refine Calls.mono (rp W hW) ?_
      rintro e w' ⟨h | ⟨_,ls',h1,rfl⟩,hb⟩
      · rw [hR] at h;exact absurd rfl h.1
      · obtain rfl:ls' = ls:=(Option.some.inj (g1.symm.trans h1)).symm
        exact ⟨rfl,hb⟩
     have sg2:∀ (W:World),Below w.heap.size w W → Calls Tryz.prog 26 #[.string s] W fun e w' => (∃ A k,e = .returned (.tuple #[.slice A ls.length k,.int .i64 0]) ∧ Rd w' w'.heap.size A (flat6 ls)) ∧ Below W.heap.size W w':=fun W hW => by
      refine Calls.mono (sg W hW) ?_
      rintro e w' ⟨h | ⟨_,A,k,ls',h1,rfl,h2,_⟩,hb⟩
      · rw [hR] at h;exact absurd rfl h.1
      · obtain rfl:ls' = ls:=(Option.some.inj (g1.symm.trans h1)).symm
        exact ⟨⟨A,k,rfl,h2⟩,hb⟩
     obtain ⟨H,hH⟩:∃ H,H = fieldsL (strL s):=⟨_,rfl⟩
     rw [← hH] at hd hfl rp2
     obtain ⟨x0,x1,x2,x3,x4⟩:=H
     obtain ⟨y0,y1,y2,y3,y4⟩:=hfl
     have y0':x0 < 1099511627776:=y0
     have y1':x1 < 1099511627776:=y1
     have y3':x3 < 1099511627776:=y3
     have y4':x4 < 1099511627776:=y4
     have hd2:∀ (W:World),Below w.heap.size w W → Calls Tryz.prog 17 #[.string s] W fun e w' => e = .returned (.tuple #[.agg #[.int .u64 x0,.int .u64 x1,.int .u32 x2,.int .u64 x3,.int .u64 x4],.int .i64 0]) ∧ Below W.heap.size W w':=fun W hW => hd W hW
     have hf:four ⟨x0,x1,x2,x3,x4⟩ = [x0,x1,x3,x4]:=rfl
     rw [hf] at rp2
     have hrr:readL (repL ls [x0,x1,x3,x4]) = some (ls,[x0,x1,x3,x4]):=read_rep hll rfl (by intro n hn;simp at hn;omega)
     have hrc:=rep_cut (ls:=ls) (h:=[x0,x1,x3,x4]) hll
     have hrn:=rep_ne ls [x0,x1,x3,x4]
     have hrl:(repL ls [x0,x1,x3,x4]).length ≤ 100000:=by
      unfold repL
      have h1:=lines_len (ls:=ls) (fun l hl => ⟨(hll l hl).1,fun n hn => Nat.lt_trans ((hll l hl).2 n hn) (by decide)⟩)
      have h2:=joinL_len (l:=[x0,x1,x3,x4]) (by intro n hn;simp at hn;omega)
      rw [List.length_append]
      unfold lineL at h1 ⊢
      rw [List.length_append]
      simp only [List.length_cons,List.length_nil] at h1 h2 ⊢
      omega
     have hrs:strL (strOf (repL ls [x0,x1,x3,x4])) = repL ls [x0,x1,x3,x4]:=strL_of (repL_lt _ _)
     have hrz:(strOf (repL ls [x0,x1,x3,x4])).size = (repL ls [x0,x1,x3,x4]).length:=strOf_size _
     obtain ⟨R,hRe⟩:∃ R,R = strOf (repL ls [x0,x1,x3,x4]):=⟨_,rfl⟩
     rw [← hRe] at rp2 hrs hrz
     rw [← hrs] at hrr hrc hrn hrl
     rw [strL_length] at hrn hrl
     have rd:=fun (W:World) => rd_ofL (R:=R) (W:=W) (ls:=ls) (x0:=x0) (x1:=x1) (x3:=x3) (x4:=x4) (by omega) hrr
     have HRp:=hide rp2
     have HSg:=hide sg2
     have HHd:=hide hd2
     have HRd:=hide rd
     have HRn:=hide hrn
     have HRl:=hide hrl
     have HRc:=hide hrc
     have H6:=hide h6
     have HL:=hide g8
     clear rp rp2 sg sg2 hd hd2 rd hrr hrc hrn hrl hrs hrz hRe hR hS hT hP hbig hH g1 g2 g3 g4 g5 g6 g7 g8 g9 g10 h6 hll hf y0 y1 y2 y3 y4 y0' y1' y3' y4'
     go_enter Tryz.func9,Tryz.ntmps9
     go_upto_region 6 with (first
      | (have hx1:=HB1;clear hx1;go_at_call 27;refine (Calls.mono (HRp.out _ HB1.out) ?_);rintro e w2 ⟨rfl,hb⟩;have HB2:=hide (HB1.out.trans (hb.mono HB1.out.size));clear hb HB1)
      | (go_at_call 24;refine (Calls.mono HLi.out ?_);rintro e w1 ⟨rfl,hb1⟩;have HB1:=hide hb1;clear hb1))
     go_upto_region 9 with (go_at_call 26;refine (Calls.mono (HSg.out _ HB2.out) ?_);rintro e w3 ⟨⟨A,k,rfl,hr⟩,hb⟩;have HR3:=hide hr;have HB3:=hide (HB2.out.trans (hb.mono HB2.out.size));clear hb hr HB2)
     go_upto_region 10 with (go_at_call 17;refine (Calls.mono (HHd.out _ HB3.out) ?_);rintro e w4 ⟨rfl,hb⟩;have HR4:=hide ((HR3.out.below hb).more hb.size);have HB4:=hide (HB3.out.trans (hb.mono HB3.out.size));clear hb HR3 HB3)
     have k5:Bk (w4.alloc (.cells #[.int .u64 x0,.int .u64 x1,.int .u32 x2,.int .u64 x3,.int .u64 x4] 25)) w4.heap.size 25 #[.int .u64 x0,.int .u64 x1,.int .u32 x2,.int .u64 x3,.int .u64 x4]:=Bk.new w4 _ _
     have hr5:=(HR4.out.alloc (Nat.le_refl _) (.cells #[.int .u64 x0,.int .u64 x1,.int .u32 x2,.int .u64 x3,.int .u64 x4] 25))
     have be5:=HB4.out.alloc HB4.out.size (.cells #[.int .u64 x0,.int .u64 x1,.int .u32 x2,.int .u64 x3,.int .u64 x4] 25)
     have z5:=HB4.out.size
     have z6:w4.heap.size + 1 = (w4.alloc (.cells #[.int .u64 x0,.int .u64 x1,.int .u32 x2,.int .u64 x3,.int .u64 x4] 25)).heap.size:=by simp
     obtain ⟨g,hg⟩:∃ g,g = w4.heap.size:=⟨_,rfl⟩
     rw [← hg] at k5 hr5 z5 z6 ⊢
     obtain ⟨W5,hW5⟩:∃ W,W = w4.alloc (.cells #[.int .u64 x0,.int .u64 x1,.int .u32 x2,.int .u64 x3,.int .u64 x4] 25):=⟨_,rfl⟩
     rw [← hW5] at k5 hr5 be5 z6 ⊢
     have K5:=hide k5
     have HR5:=hide hr5
     have HB5:=hide be5
     have Z5:=hide z5
     have Z6:=hide z6
     clear k5 hr5 be5 hW5 hg HR4 HB4 z5 z6
     go_upto_region 11 with (go_at_call 22;refine (Calls.mono (HRd.out _) ?_);rintro e w6 ⟨⟨A2,k2,rfl,hm⟩,hb⟩;have HM6:=hide hm;have K6:=hide (K5.out.keep hb);have HR6:=hide ((HR5.out.below (hb.mono (by have:=Z6.out;omega))));have HB6:=hide (HB5.out.trans (hb.mono HB5.out.size));have Y6:=hide (show g < w6.heap.size from by have:=hb.size;have:=Z6.out;omega);clear hb hm K5 HR5 HB5)
     have k7:=K6.out.alloc (.cells #[.int .u64 x0,.int .u64 x1,.int .u32 0,.int .u64 x3,.int .u64 x4] 25)
     have j7:Bk (w6.alloc (.cells #[.int .u64 x0,.int .u64 x1,.int .u32 0,.int .u64 x3,.int .u64 x4] 25)) w6.heap.size 25 #[.int .u64 x0,.int .u64 x1,.int .u32 0,.int .u64 x3,.int .u64 x4]:=Bk.new w6 _ _
     have hr7:=(HR6.out.alloc (by have:=Y6.out;omega) (.cells #[.int .u64 x0,.int .u64 x1,.int .u32 0,.int .u64 x3,.int .u64 x4] 25)).setCell (p:=⟨g,2,none⟩) (Nat.le_refl _) (.int .u32 0)
     have hm7:=rd_apart k7 ((HM6.out.alloc (Nat.le_refl _) (.cells #[.int .u64 x0,.int .u64 x1,.int .u32 0,.int .u64 x3,.int .u64 x4] 25))) (flat6_not ls x0 x1 x2 x3 x4) 2 (.int .u32 0)
     have be7:=(HB6.out.alloc HB6.out.size (.cells #[.int .u64 x0,.int .u64 x1,.int .u32 0,.int .u64 x3,.int .u64 x4] 25)).setCell (p:=⟨g,2,none⟩) Z5.out (.int .u32 0)
     have k8:=k7.set_ 2 (.int .u32 0)
     have j8:=j7.far (p:=⟨g,2,none⟩) (by show w6.heap.size ≠ g;have:=Y6.out;omega) (.int .u32 0)
     have z8:w6.heap.size + 1 = ((w6.alloc (.cells #[.int .u64 x0,.int .u64 x1,.int .u32 0,.int .u64 x3,.int .u64 x4] 25)).setCell ⟨g,2,none⟩ (.int .u32 0)).heap.size:=by simp [World.setCell]
     obtain ⟨g2,hg2⟩:∃ g,g = w6.heap.size:=⟨_,rfl⟩
     rw [← hg2] at j8 z8 hm7 ⊢
     obtain ⟨W7,hW7⟩:∃ W,W = w6.alloc (.cells #[.int .u64 x0,.int .u64 x1,.int .u32 0,.int .u64 x3,.int .u64 x4] 25):=⟨_,rfl⟩
     rw [← hW7] at k7 k8 j8 hr7 hm7 be7 z8 ⊢
     obtain ⟨⟨c0,c1,c2,c3,c4⟩,⟨v0,v1,v2,v3,v4⟩⟩:=five_cells k7
     have y6:=Y6.out
     rw [← hg2] at y6
     have K8:=hide k8
     have J8:=hide j8
     have HR8:=hide (hr7.more (B':=(W7.setCell ⟨g,2,none⟩ (.int .u32 0)).heap.size) (by omega))
     have HM8:=hide (hm7.more (B':=(W7.setCell ⟨g,2,none⟩ (.int .u32 0)).heap.size) (by omega))
     have HB8:=hide be7
     clear k7 j7 k8 j8 hr7 hm7 be7 z8 hW7 hg2 y6 K6 HR6 HM6 HB6 Y6 Z5 Z6
     go_upto_region 12 with fail
     clear c0 c1 c2 c3 c4 v0 v1 v2 v3 v4
     obtain ⟨W8,hW8⟩:∃ W,W = W7.setCell ⟨g,2,none⟩ (.int .u32 0):=⟨_,rfl⟩
     rw [← hW8] at K8 J8 HR8 HM8 HB8 ⊢
     clear hW8
     have hRn:R.toList.isEmpty = false:=by
      have hn:=HRn.out
      rw [Lib.toList_data]
      cases hd:R.data.toList with
      | nil =>
        have:R.data.size = 0:=by rw [← Array.length_toList,hd];rfl
        have h2:R.size = R.data.size:=rfl
        omega
      | cons => rfl
     go_upto_region 14 with fail
     obtain ⟨n,hn⟩:∃ n,n = R.size - 1:=⟨_,rfl⟩
     have hn1:(R.size:Int) - 1 = (n:Int):=by have:=HRn.out;omega
     have hn2:(n:Int) ≤ (R.size:Int):=by omega
     have hn3:(0:Int) ≤ (n:Int):=by omega
     have hnb:(n:Int) ≤ 100000:=by have:=HRl.out;omega
     have hw64:wrap64 (n:Int) = (n:Int):=by unfold wrap64;omega
     have hP:strL (R.extract 0 n) = (strL R).take ((strL R).length - 1):=by rw [strL_sub,List.drop_zero,strL_length,hn]
     have hPs:(R.extract 0 n).size ≤ 1048576:=by rw [← strL_length,hP,List.length_take,strL_length];have:=HRl.out;omega
     obtain ⟨P,hPe⟩:∃ P,P = R.extract 0 n:=⟨_,rfl⟩
     have hPx:=hPe.symm
     rw [← hPe] at hP hPs
     have bd:=fun (W:World) => rd_bad (R:=P) (W:=W) hPs (by rw [hP];exact HRc.out)
     have HBd:=hide bd
     have hkk:(#[.int .u64 x0,.int .u64 x1,.int .u32 x2,.int .u64 x3,.int .u64 x4]:Array Value).setIfInBounds 2 (.int .u32 0) = #[.int .u64 x0,.int .u64 x1,.int .u32 0,.int .u64 x3,.int .u64 x4]:=rfl
     rw [hkk] at K8
     clear hn hP hPs hPe bd hkk HRc HRl HRn
     have heqh:=fun (W:World) => eql_head x0 x1 0 x3 x4 W
     have hgd:=guard_head
     go_upto_region 15 with (go_at_call 22;refine (Calls.mono (HBd.out _) ?_);rintro e w9 ⟨rfl,hb⟩;have K9:=hide (K8.out.keep hb);have J9:=hide (J8.out.keep hb);have HM9:=hide ((HM8.out.below hb).more hb.size);have HR9:=hide ((HR8.out.below hb).more hb.size);have HB9:=hide (HB8.out.trans (hb.mono HB8.out.size));clear hb HM8 HR8 HB8 K8 J8)
     have k10:=K9.out.alloc (.cells #[.int .u64 0,.int .u64 0,.int .u32 0,.int .u64 0,.int .u64 0] 25)
     have j10:=J9.out.alloc (.cells #[.int .u64 0,.int .u64 0,.int .u32 0,.int .u64 0,.int .u64 0] 25)
     have hr10:=(HR9.out.alloc (Nat.le_refl _) (.cells #[.int .u64 0,.int .u64 0,.int .u32 0,.int .u64 0,.int .u64 0] 25)).more (B':=(w9.alloc (.cells #[.int .u64 0,.int .u64 0,.int .u32 0,.int .u64 0,.int .u64 0] 25)).heap.size) (by simp)
     have hm10:=(HM9.out.alloc (Nat.le_refl _) (.cells #[.int .u64 0,.int .u64 0,.int .u32 0,.int .u64 0,.int .u64 0] 25)).more (B':=(w9.alloc (.cells #[.int .u64 0,.int .u64 0,.int .u32 0,.int .u64 0,.int .u64 0] 25)).heap.size) (by simp)
     have be10:=HB9.out.alloc HB9.out.size (.cells #[.int .u64 0,.int .u64 0,.int .u32 0,.int .u64 0,.int .u64 0] 25)
     obtain ⟨W10,hW10⟩:∃ W,W = w9.alloc (.cells #[.int .u64 0,.int .u64 0,.int .u32 0,.int .u64 0,.int .u64 0] 25):=⟨_,rfl⟩
     rw [← hW10] at k10 j10 hr10 hm10 be10 ⊢
     have sm:Calls Tryz.prog 25 #[.slice A ls.length k,.slice A2 ls.length k2] W10 fun e w' => e = .returned (.bool true) ∧ ∃ n,w' = W10.drewN n:=by
      have:=same31_any A A2 k k2 ls ls W10 hr10 hm10 H6.out H6.out (by have:=HL.out;omega)
      rw [decide_eq_true rfl] at this
      exact this
     obtain ⟨⟨c0,c1,c2,c3,c4⟩,_⟩:=five_cells k10
     obtain ⟨⟨d0',d1,d2,d3,d4⟩,_⟩:=five_cells j10
     have HSm:=hide sm
     have HB10:=hide be10
     clear sm k10 j10 hr10 hm10 be10 hW10 K9 J9 HR9 HM9 HB9
     go_wp2_with (go_at_call 25;refine (Calls.mono HSm.out ?_);rintro e w11 ⟨rfl,m,rfl⟩)
     go_ret
     exact ⟨rfl,below_drewN HB10.out m⟩
   · have rp2:∀ (W:World),Below w.heap.size w W → Calls Tryz.prog 27 #[.string s] W fun e w' => e = .returned (.tuple #[.string ⟨#[]⟩,.int .i64 z]) ∧ Below W.heap.size W w':=fun W hW => by
      refine Calls.mono (rp W hW) ?_
      rintro e w' ⟨h | ⟨h,_⟩,hb⟩
      · rw [hR] at h;exact ⟨h.2,hb⟩
      · rw [hR] at h;exact absurd h hz
     have HRp:=hide rp2
     have hz2:(z == 0) = false:=by simpa using hz
     clear rp rp2 hR hS hT hP hbig
     go_enter Tryz.func9,Tryz.ntmps9
     go_wp2_with (first
      | (go_at_call 27;refine (Calls.mono (HRp.out w1 HB1.out) ?_);rintro e w2 ⟨rfl,hb2⟩;have HB2:=hide (HB1.out.trans (hb2.mono HB1.out.size));clear hb2)
      | (go_at_call 24;refine (Calls.mono HLi.out ?_);rintro e w1 ⟨rfl,hb1⟩;have HB1:=hide hb1;clear hb1))
     go_ret
     exact ⟨rfl,HB2.out⟩
end Go.Proofs.YtcfnjpokfodmoaaGreatDoor
