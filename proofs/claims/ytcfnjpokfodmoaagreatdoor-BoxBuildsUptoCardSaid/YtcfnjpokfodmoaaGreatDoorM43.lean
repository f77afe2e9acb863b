/- Lemmas for the row: DocCat, DocTabW. -/
import Derived.Test.YtcfnjpokfodmoaaGreatDoorM01
import Derived.Test.YtcfnjpokfodmoaaGreatDoorM39
import Derived.Test.YtcfnjpokfodmoaaGreatDoorM42
import Derived.Deep.RegionWith
set_option maxRecDepth 100000
set_option linter.unusedVariables false
namespace Go.Proofs.YtcfnjpokfodmoaaGreatDoor
open Go.RowKit
theorem right_chk {s:ByteArray} {n:Int} (h:rightB s n = true):chkB s n = 0:=by unfold chkB;rw [if_pos h]
set_option maxHeartbeats 4000000 in
theorem refCat_any (s s2:ByteArray) (n n2 g o c:Nat) (w:World) (h1:rightB s n = true) (h2:rightB s2 n2 = true) (hg:g < w.heap.size) (c0:w.cell? ⟨g,o,none⟩ = some (.string s2)) (c1:w.cell? ⟨g,o + 1,none⟩ = some (.int .i64 n2)) (hsum:n + n2 ≤ 1048576) (hn2:0 < n2) :
 Calls Tryz.prog 156 #[bstr s n,.slice (some ⟨g,o,none⟩) 1 c] w fun e w' => ∃ s',e = .returned (.tuple #[bstr s' ((n + n2:Nat):Int),.int .i64 0]) ∧ Bs s' ((n + n2:Nat):Int) (bitsL s n ++ bitsL s2 n2) ∧ Below w.heap.size w w':=by
 obtain ⟨i0,hi,iz0,iz1,iz2⟩:=info_parts info_bool
 have hR1:=rightB_n h1
 have hR2:=rightB_n h2
 have hs1:s.size = (n + 7) / 8:=by omega
 have hs2:s2.size = (n2 + 7) / 8:=by omega
 have ck1:=fun (W:World) => refCheck_any s n W ⟨by omega,by omega⟩ (by omega)
 have ck2:=fun (W:World) => refCheck_any s2 n2 W ⟨by omega,by omega⟩ (by omega)
 rw [right_chk h1] at ck1
 rw [right_chk h2] at ck2
 have al1:=fun (W:World) => all_any s n W (by omega) hs1
 have al2:=fun (W:World) => all_any s2 n2 W (by omega) hs2
 have HCk1:=hide ck1
 have HCk2:=hide ck2
 have HAl1:=hide al1
 have HAl2:=hide al2
 have HC:=hide (And.intro c0 c1)
 have d2:decide (1048576 - (n2:Int) < (n:Int)) = false:=decide_eq_false (by omega)
 have hn20:n + n2 ≤ 1048576:=hsum
 clear ck1 ck2 al1 al2 hR1 hR2 hs1 hs2 h1 h2 c0 c1
 go_enter Tryz.func156,Tryz.ntmps156
 go_wp2_with (first
  | (go_at_call 38;refine (Calls.mono (HCk1.out _) ?_);rintro e w1 ⟨rfl,hb1⟩;have kb:=((Bk.new w _ _).alloc _).keep hb1;have kr:=(Bk.new1 w _ _ _).keep hb1;obtain ⟨q0,q1⟩:=two_cells kb;obtain ⟨r0,r1⟩:=two_cells kr;have hbe1:Below w.heap.size w w1:=(((Below.refl _ _).alloc (Nat.le_refl _) _).alloc (by simp) _).trans (hb1.mono (by simp;omega)))
  | (go_at_call 215;refine (Calls.mono (HAl1.out _) ?_);rintro e w2 ⟨A,cA,rfl,hown,hb2⟩;have HO2:=hide (own_base (base':=w.heap.size) hown (fun g hg => Nat.le_trans hbe1.size (hown.lt g hg).1));have KR2:=hide (kr.keep hb2);have KB2:=hide (kb.keep hb2);have HB2:=hide (hbe1.trans (hb2.mono hbe1.size));clear hown hb2))
 clear kb kr q0 q1 r0 r1 hb1 hbe1
 go_loopw [6,17] (fun v i wr => ∃ (k t:Nat) (A:Option Addr) (cA:Nat),k ≤ 1 ∧ i = .int .i64 k ∧ v = .slice A t cA ∧ Hid (t = if k = 0 then n else n + n2) ∧ Hid (wr.ownsRow w.heap.size 4 1 (.slice A t cA) t (((if k = 0 then bitsL s n else bitsL s n ++ bitsL s2 n2)).map Value.bool)) ∧ Hid (Bk wr (w.heap.size + 1) 27 #[.string ⟨#[]⟩,.int .i64 0]) ∧ Hid (Bk wr w.heap.size 27 #[.string s,.int .i64 n]) ∧ Hid (Below w.heap.size w wr)) (fun _ i _ => 1 - (intOf i).toNat)
 case atStart => exact ⟨0,n,A,cA,by omega,rfl,rfl,hide rfl,HO2,KR2,KB2,HB2⟩
 case round =>
  clear HO2 KR2 KB2 HB2
  obtain ⟨k,t,A,cA,hk,rfl,rfl,HT,HO,KR,KB,HB⟩:=hrel
  have hz:=KR.out.lt
  by_cases h0:k = 0
  · have ht:t = n:=by have:=HT.out;rwa [if_pos h0] at this
    have ho:=HO.out
    rw [if_pos h0] at ho
    have HO1:=hide ho
    have x0:=(HB.out.cell (p:=⟨g,o,none⟩) hg).trans HC.out.1
    have x1:=(HB.out.cell (p:=⟨g,o + 1,none⟩) hg).trans HC.out.2
    subst h0
    subst ht
    clear HT HO ho
    go_wp2_with (first
     | (go_at_call 38;refine (Calls.mono (HCk2.out _) ?_);rintro e w3 ⟨rfl,hb3⟩;have kx:=(Bk.new wr 27 #[.string s2,.int .i64 n2]).keep hb3;obtain ⟨p0,p1⟩:=two_cells kx;have HK3:=hide kx;have HB3:=hide (((Below.refl wr.heap.size wr).alloc (Nat.le_refl _) (.cells #[.string s2,.int .i64 n2] 27)).trans (hb3.mono (by simp)));have hz3:wr.heap.size ≤ w3.heap.size:=HB3.out.size;clear hb3 kx)
     | (go_at_call 215;refine (Calls.mono (HAl2.out _) ?_);rintro e w4 ⟨A4,c4,rfl,hown4,hb4⟩;have HB4:=hide (HB3.out.trans (hb4.mono hz3));have hz4:=HB4.out.size;have ho4:=own_fr HO1.out (Fr.below HB4.out (fun _ => False)) (fun _ _ h => h);have hn4:=own_none hown4;have hr4:=(own_rdN hown4).1;clear hb4 hown4)
     | (at_builtin;refine wpList_append_rd rfl (.tmp 32) (.tmp 34) 232 rfl w.heap.size 4 i0 (.bool false) 1 1 Tryz.underlying232 hi iz0 iz1 iz2 rfl (by decide) _ _ _ rfl ho4 A4 n2 c4 ((bitsL s2 n2).map Value.bool) rfl hn4 (by rw [List.length_map,bitsL_length,Nat.mul_one]) hr4 (fun u hu => by obtain ⟨x,_,rfl⟩:=List.mem_map.1 hu;rfl) (by unfold maxLen;omega) (by omega) (by omega) ?_;intro v5 w5 hown5 hgr5
        have hbe5:Below w.heap.size w w5:=(HB.out.trans (HB4.out.mono (by omega))).grown hgr5 (by omega) (fun g hg => (ho4.lt g hg).1)
        have hne:=own_ne ho4 (KR.out.below HB4.out (by omega)) (by decide)
        have KR5:=hide ((KR.out.below HB4.out (by omega)).grown hgr5 hne)
        have hne2:=own_ne ho4 (KB.out.below HB4.out (by omega)) (by decide)
        have KB5:=hide ((KB.out.below HB4.out (by omega)).grown hgr5 hne2)
        have hf5:=own_form3 hown5
        obtain ⟨A5,c5,rfl⟩:=hf5
        have HO5:=hide hown5
        have HB5:=hide hbe5
        clear hgr5 hown5 hbe5 hne hne2 ho4 hn4 hr4))
    go_roundw
    case rel => exact ⟨1,t + n2,A5,c5,by omega,by first | rfl | go_num,rfl,hide rfl,hide (by rw [if_neg (by decide),List.map_append];exact HO5.out),KR5,KB5,HB5⟩
    case measure => simp [intOf]
  · obtain rfl:k = 1:=by omega
    have ht:t = n + n2:=by have:=HT.out;rwa [if_neg h0] at this
    have ho:=HO.out
    rw [if_neg h0] at ho
    have hlen:(bitsL s n ++ bitsL s2 n2).length = t:=by rw [List.length_append,bitsL_length,bitsL_length,ht]
    have of:=ofBits_any A (bitsL s n ++ bitsL s2 n2) cA wr (own_rdN ho).1 (by rw [hlen];omega)
    rw [hlen] at of
    have HOf:=hide of
    have HTt:=hide ht
    obtain ⟨z0,z1⟩:=two_cells KR.out
    clear ht ho hlen of HT HO h0 KB
    go_wp2_with (go_at_call 157;refine (Calls.mono HOf.out ?_);rintro e w3 ⟨s3,rfl,hbs,hb3⟩;have kr3:=KR.out.keep hb3;obtain ⟨x0,x1⟩:=two_cells kr3;have y0:=kr3.free 0;have y1:=kr3.free 1;have HBs:=hide hbs;clear hbs)
    obtain ⟨t0,t1⟩:=two_cells ((kr3.set_ 0 (.string s3)).set_ 1 (.int .i64 (t:Nat)))
    refine bodyPost_ret (v:=.tuple #[bstr s3 (t:Nat),.int .i64 0]) (by simp [results,Tryz.results156,go_sem,t0,t1]) rfl ?_
    exact ⟨s3,by rw [HTt.out],by rw [← HTt.out];exact HBs.out,(((HB.out.trans (hb3.mono HB.out.size))).setCell (by simp) _).setCell (by simp) _⟩
set_option maxHeartbeats 1000000 in
theorem refTabCheck_any (A:Option Addr) (ls:List Int) (c:Nat) (w:World) (h:Rd w w.heap.size A (ls.map (.int .i64))) (hlen:ls.length ≤ 9223372036854775807) (h0:tabW ls = 0) :
 Calls Tryz.prog 154 #[.slice A ls.length c] w fun e w' => e = .returned (.int .i64 0) ∧ w' = w:=by
 obtain ⟨hok,hne⟩:=tabW_zero h0
 have ck:=refCanonCheck_any A ls c w h hlen
 have hW:okW ls = 0:=by unfold okW;rw [if_pos hok]
 rw [hW] at ck
 have HCk:=hide ck
 have hd:((ls.length:Int) == 0) = false:=by simp;intro e;exact hne (by rw [e];rfl)
 have hp:0 < ls.length:=by omega
 clear ck hW hok h h0 hne
 go_enter Tryz.func154,Tryz.ntmps154
 go_wp2_with (go_at_call 214;refine (Calls.mono HCk.out ?_);rintro e w1 ⟨rfl,hww⟩;replace hww:=hww.symm;subst hww)
 go_ret
 exact ⟨rfl,rfl⟩
theorem tabBits_nat (N:List Nat):tabBits (N.map Int.ofNat) = tableL N:=by
 unfold tabBits
 rw [List.map_map]
 congr 1
 conv => rhs;rw [← List.map_id N]
 apply List.map_congr_left
 intro x _
 rfl
theorem natsV_int (N:List Nat):natsV N = (N.map Int.ofNat).map (Value.int .i64):=by unfold natsV;rw [List.map_map];rfl
set_option maxHeartbeats 4000000 in
theorem refTabWrite_any (A:Option Addr) (N:List Nat) (c:Nat) (s:ByteArray) (n:Nat) (w:World) (h:Rd w w.heap.size A (natsV N)) (hr:rightB s n = true) (h0:tabW (N.map Int.ofNat) = 0) (hroom:n + (tableL N).length ≤ 1048576) :
 Calls Tryz.prog 109 #[bstr s n,.slice A N.length c] w fun e w' => ∃ s',e = .returned (.tuple #[bstr s' ((n + (tableL N).length:Nat):Int),.int .i64 0]) ∧ Bs s' ((n + (tableL N).length:Nat):Int) (bitsL s n ++ tableL N) ∧ Below w.heap.size w w':=by
 have hR1:=rightB_n hr
 obtain ⟨hok,hne⟩:=tabW_zero h0
 obtain ⟨h512,h15⟩:=okL_nat hok
 rw [List.length_map] at h512 hne
 have hN0:N ≠ []:=fun e => hne (by rw [e];rfl)
 have hN15:∀ x ∈ N,x ≤ 15:=fun x hx => by have:=(h15 (Int.ofNat x) (List.mem_map.2 ⟨x,hx,rfl⟩)).2;simp only [Int.ofNat_eq_natCast] at this;omega
 have hF:(tableL N).length ≤ 20000:=by rw [← tabBits_nat];exact tabBits_length_le hok
 have hFp:0 < (tableL N).length:=by unfold tableL;rw [List.length_append,natBits_length];omega
 have ck1:=fun (W:World) => refCheck_any s n W ⟨by omega,by omega⟩ (by omega)
 rw [right_chk hr] at ck1
 have ck2:=fun (W:World) (hW:Below w.heap.size w W) => by
  have h1:=(h.below hW).more hW.size
  rw [natsV_int] at h1
  have:=refTabCheck_any A (N.map Int.ofNat) c W h1 (by rw [List.length_map];omega) h0
  rw [List.length_map] at this
  exact this
 have ls:=fun (W:World) (hW:Below w.heap.size w W) => refList_any A N c W ((h.below hW).more hW.size) hN0 hN15 hF h512
 have of:=fun (A':Option Addr) (c':Nat) (W:World) (h:Rd W W.heap.size A' ((tableL N).map Value.bool)) => ofBits_any A' (tableL N) c' W h (by omega)
 have ca:=fun (s2:ByteArray) (g c:Nat) (W:World) (hb:Bs s2 ((tableL N).length:Nat) (tableL N)) (hg:g < W.heap.size) (c0:W.cell? ⟨g,0,none⟩ = some (.string s2)) (c1:W.cell? ⟨g,0 + 1,none⟩ = some (.int .i64 ((tableL N).length:Nat))) => by
  have:=refCat_any s s2 n (tableL N).length g 0 c W hr hb.1 hg c0 c1 hroom hFp
  rw [hb.2.2] at this
  exact this
 obtain ⟨T,hT⟩:∃ T,T = tableL N:=⟨_,rfl⟩
 rw [← hT] at ls of ca hF hFp hroom ⊢
 obtain ⟨L,hL⟩:∃ L,L = T.length:=⟨_,rfl⟩
 rw [← hL] at ls of ca hF hFp hroom ⊢
 have HCk1:=hide ck1
 have HCk2:=hide ck2
 have HLs:=hide ls
 have HOf:=hide of
 have HCa:=hide ca
 have d2:decide (1048576 - (L:Int) < (n:Int)) = false:=decide_eq_false (by omega)
 clear ck1 ck2 ls of ca hR1 hok h512 h15 hN0 hN15 hT hL h hr h0 hne
 go_enter Tryz.func109,Tryz.ntmps109
 go_wp2_with (first
  | (go_at_call 38;refine (Calls.mono (HCk1.out _) ?_);rintro e w1 ⟨rfl,hb1⟩;have kb:=((Bk.new w _ _).alloc _).keep hb1;have kr:=(Bk.new1 w _ _ _).keep hb1;obtain ⟨q0,q1⟩:=two_cells kb;obtain ⟨r0,r1⟩:=two_cells kr;have hbe1:Below w.heap.size w w1:=(((Below.refl _ _).alloc (Nat.le_refl _) _).alloc (by simp) _).trans (hb1.mono (by simp;omega)))
  | (go_at_call 154;refine (Calls.mono (HCk2.out _ hbe1) ?_);rintro e w1 ⟨rfl,hww⟩;replace hww:=hww.symm;subst hww)
  | (go_at_call 155;refine (Calls.mono (HLs.out _ hbe1) ?_);rintro e w3 ⟨A3,c3,rfl,_,hr3,hb3⟩;have HR3:=hide hr3;have kb3:=kb.keep hb3;have KR3:=hide (kr.keep hb3);have KB3:=hide kb3;clear q0 q1 r0 r1;obtain ⟨q0,q1⟩:=two_cells kb3;have HB3:=hide (hbe1.trans (hb3.mono hbe1.size));clear hr3 hb3 kb3 kb kr hb1 hbe1))
 have hbw:Below w.heap.size w w3:=HB3.out
 obtain ⟨g0,hg0⟩:∃ g,g = w.heap.size:=⟨_,rfl⟩
 have hlt3:=KR3.out.lt
 rw [← hg0] at q0 q1 KB3 KR3 hlt3 ⊢
 have HG0:=hide hg0
 have HBW:=hide hbw
 have q0':w3.drew.cell? ⟨g0,0,none⟩ = some (.string s):=q0
 have q1':w3.drew.cell? ⟨g0,1,none⟩ = some (.int .i64 n):=q1
 clear hg0 hbw HB3 q0 q1 HCk1 HCk2 HLs
 go_region_held3 (fun w' => w'.cell? ⟨g0,0,none⟩ = some (.string s) ∧ w'.cell? ⟨g0,1,none⟩ = some (.int .i64 n))
  (first
  | with_reducible exact ⟨q0',q1'⟩
  | with_reducible exact ⟨p0,p1⟩
  | with_reducible exact ⟨keep_new p0 _,keep_new p1 _⟩
  | with_reducible exact ⟨u0,u1⟩
  | with_reducible exact ⟨keep_set (keep_set u0 (Nat.ne_of_lt (Nat.lt_succ_self _))) (Nat.ne_of_lt (Nat.lt_succ_self _)),keep_set (keep_set u1 (Nat.ne_of_lt (Nat.lt_succ_self _))) (Nat.ne_of_lt (Nat.lt_succ_self _))⟩
  | with_reducible exact ⟨keep_set u0 (Nat.ne_of_lt (Nat.lt_succ_self _)),keep_set u1 (Nat.ne_of_lt (Nat.lt_succ_self _))⟩)
  (first
  | (go_at_call 156;refine (Calls.mono (HCa.out sx w5.heap.size _ _ HBs5.out (by simp) (((Bk.new w5 _ _).cell 0).trans rfl) (((Bk.new w5 _ _).cell 1).trans rfl)) ?_);rintro e w6 ⟨s6,rfl,hbs6,hb6⟩;have kb6:=(KB5.out.alloc (.cells #[.string sx,.int .i64 L] 27)).keep hb6;have kr6:=(KR5.out.alloc (.cells #[.string sx,.int .i64 L] 27)).keep hb6;obtain ⟨u0,u1⟩:=two_cells kb6;obtain ⟨x0,x1⟩:=two_cells kr6;have y0:=kr6.free 0;have y1:=kr6.free 1;have HBs6:=hide hbs6;have HB6:=hide ((HB5.out.alloc HB5.out.size (.cells #[.string sx,.int .i64 L] 27)).trans (hb6.mono (by have:=HB5.out.size;simp;omega)));have KR6:=hide kr6;clear hbs6 hb6 kb6 kr6)
  | (go_at_call 157;refine (Calls.mono (HOf.out _ _ w3.drew HR3.out) ?_);rintro e w5 ⟨sx,rfl,hbs5,hb5⟩;have kb5:=(show Bk w3.drew g0 _ _ from KB3.out).keep hb5;obtain ⟨p0,p1⟩:=two_cells kb5;have KB5:=hide kb5;have KR5:=hide ((show Bk w3.drew (g0 + 1) _ _ from KR3.out).keep hb5);have HBs5:=hide hbs5;have HB5:=hide (HBW.out.drew.trans (hb5.mono HBW.out.size));clear kb5 hbs5 hb5))
 go_wp2_with fail
 obtain ⟨t0,t1⟩:=two_cells ((KR6.out.set_ 0 (.string s6)).set_ 1 (.int .i64 ((n:Int) + (L:Int))))
 refine bodyPost_ret (v:=.tuple #[bstr s6 ((n:Int) + (L:Int)),.int .i64 0]) (by simp [results,Tryz.results109,go_sem,t0,t1]) rfl ?_
 exact ⟨s6,by rw [Int.natCast_add],HBs6.out,(HB6.out.setCell (by rw [← HG0.out];simp) _).setCell (by rw [← HG0.out];simp) _⟩
end Go.Proofs.YtcfnjpokfodmoaaGreatDoor
