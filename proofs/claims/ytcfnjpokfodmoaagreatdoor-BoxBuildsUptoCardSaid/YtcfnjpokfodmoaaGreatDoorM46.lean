/- Lemmas for the row: DocAll. -/
import Derived.Test.YtcfnjpokfodmoaaGreatDoorM38
import Derived.Test.YtcfnjpokfodmoaaGreatDoorM45
set_option maxRecDepth 100000
set_option linter.unusedVariables false
namespace Go.Proofs.YtcfnjpokfodmoaaGreatDoor
open Go.RowKit
set_option maxHeartbeats 4000000 in
theorem refAll_any (s:ByteArray) (w:World) (hs:s.size ≤ 4096) :
 Calls Tryz.prog 32 #[.string s] w fun e w' => (∃ b N,e = .returned (.tuple #[bstr b N,.int .i64 (segsN s.size:Nat),.int .i64 0]) ∧ Bs b N (allL (strL s))) ∧ Below w.heap.size w w':=by
 have d0:decide ((65536:Int) < (s.size:Int)) = false:=decide_eq_false (by omega)
 have HNw:=hide (fun (W:World) => mtfFresh_any W)
 have hfl:strL (strOf freshL) = freshL:=strL_of fresh_ok.lt
 obtain ⟨R0,hR0⟩:∃ R,R = strOf freshL:=⟨_,rfl⟩
 rw [← hR0] at HNw hfl
 have HFl:=hide hfl
 clear hR0 hfl
 obtain ⟨F,hF⟩:∃ F,F = allL (strL s):=⟨_,rfl⟩
 have HF:=hide hF
 rw [← hF]
 clear hF
 go_enter Tryz.func32,Tryz.ntmps32
 go_wp2_with (go_at_call 66;refine (Calls.mono (HNw.out _) ?_);rintro e w1 ⟨rfl,hb1⟩;have KR1:=hide ((Bk.new w 27 #[.string ⟨#[]⟩,.int .i64 0]).keep hb1);have HB1:=hide (((Below.refl w.heap.size w).alloc (Nat.le_refl _) (.cells #[.string ⟨#[]⟩,.int .i64 0] 27)).trans (hb1.mono (by simp)));clear hb1)
 have hg5:=KR1.out.lt
 go_loopw [6,7,8] (fun r n i wr => ∃ (i' j:Nat) (R sb:ByteArray) (l:List Bool),r = .string R ∧ n = .int .i64 j ∧ i = .int .i64 i' ∧ i' ≤ 8192 ∧ j + segsN (s.size - i') = segsN s.size ∧ l.length ≤ 28000 * j ∧ Hid (RowOK (strL R)) ∧ Hid (Bs sb (l.length:Nat) l) ∧ Hid (Bk wr w1.heap.size 27 #[.string sb,.int .i64 (l.length:Nat)]) ∧ Hid (l ++ allB (s.size - i') (strL R) ((strL s).drop i') = F) ∧ Hid (Bk wr w.heap.size 27 #[.string ⟨#[]⟩,.int .i64 0]) ∧ Hid (Below w.heap.size w wr)) (fun _ _ i _ => s.size - (intOf i).toNat)
 case atStart =>
  refine ⟨0,0,R0,⟨#[]⟩,[],rfl,rfl,rfl,by omega,by simp,by simp,hide (by rw [HFl.out];exact fresh_ok),hide ⟨right0,rfl,rfl⟩,hide (Bk.new w1 _ _),hide ?_,hide (KR1.out.alloc _),hide (HB1.out.alloc (by omega) _)⟩
  rw [HFl.out,HF.out,List.drop_zero,Nat.sub_zero];unfold allL;rw [strL_length,List.nil_append]
 case round =>
  clear KR1 HB1
  obtain ⟨i,j,R,sb,l,rfl,rfl,rfl,hi,hj,hl,HOk,HBs,HK,HSum,HRes,HBe⟩:=hrel
  have hj8:j ≤ 8:=by unfold segsN at hj;omega
  have hg:=HK.out.lt
  have hgw:=HRes.out.lt
  by_cases hlt:i < s.size
  · obtain ⟨m,hm⟩:∃ m:Nat,m = min s.size (i + 512):=⟨_,rfl⟩
    obtain ⟨i5,hi5⟩:∃ i5:Nat,i5 = i + 512:=⟨_,rfl⟩
    have hi5I:(i:Int) + 512 = (i5:Int):=by omega
    have hi5w:IntKind.i64.wrap (i5:Int) = (i5:Int):=IntWalk.i64_in _ ⟨by omega,by omega⟩
    have hmI:(min (s.size:Int) (i5:Int)) = (m:Int):=by omega
    have hms:m ≤ s.size:=by omega
    have him:i ≤ m:=by omega
    have e1:strL (s.extract i m) = ((strL s).drop i).take 512:=by
     rw [strL_sub,hm]
     rcases Nat.le_total s.size (i + 512) with g | g
     · rw [Nat.min_eq_left g,List.take_of_length_le (by rw [strL_length];exact Nat.le_refl _),List.take_of_length_le (by rw [List.length_drop,strL_length];omega)]
     · rw [Nat.min_eq_right g,List.take_drop,Nat.add_comm]
    obtain ⟨X,hX⟩:∃ X,X = s.extract i m:=⟨_,rfl⟩
    rw [← hX] at e1
    have hXs:X.size = m - i:=by rw [← strL_length,e1,List.length_take,List.length_drop,strL_length];omega
    have hne:(strL s).drop i ≠ []:=fun e => by have:=congrArg List.length e;rw [List.length_drop,strL_length] at this;simp at this;omega
    have hs2:=HSum.out
    obtain ⟨f,hf⟩:∃ f,s.size - i = f + 1:=⟨s.size - i - 1,by omega⟩
    have hdd:((strL s).drop i).drop 512 = (strL s).drop i5:=by rw [List.drop_drop,hi5]
    rw [hf,allB,if_neg hne,hdd,allB_fuel f (s.size - i5) _ _ (by rw [List.length_drop,strL_length];omega) (by rw [List.length_drop,strL_length];omega),← e1,← List.append_assoc] at hs2
    have hok2:=toL_ok HOk.out (strL_lt X)
    have hsl:=segBits_len (l:=encZ 0 (toL (strL R) (strL X)).1) (fun x hx => by have:=encZ_sym 0 hok2.2.1 x hx;omega)
    have hel:=encZ_snoc_len (toL (strL R) (strL X)).1 0
    rw [hok2.2.2,strL_length] at hel
    have en:=fun (W:World) => refSegEnc_any sb l.length R X W HBs.out.1 HOk.out (by omega) (by omega) (by omega)
    have hbl:bitsL sb l.length = l:=HBs.out.2.2
    rw [hbl] at en
    have hR2:=strL_of hok2.1.lt
    obtain ⟨R2,hR2e⟩:∃ R2,R2 = strOf (toL (strL R) (strL X)).2:=⟨_,rfl⟩
    rw [← hR2e] at en hR2
    rw [← hR2] at hs2
    have hok3:RowOK (strL R2):=by rw [hR2];exact hok2.1
    obtain ⟨G,hG⟩:∃ G,G = segBits (encZ 0 (toL (strL R) (strL X)).1):=⟨_,rfl⟩
    rw [← hG] at en hs2 hsl
    obtain ⟨M,hM⟩:∃ M,M = l.length + G.length:=⟨_,rfl⟩
    rw [← hM] at en
    have hM2:M = (l ++ G).length:=by rw [hM,List.length_append]
    have hMl:M ≤ 28000 * (j + 1):=by omega
    have hj2:j + 1 + segsN (s.size - i5) = segsN s.size:=by have:=segsN_step (n:=s.size - i) (by omega);rw [show s.size - i - 512 = s.size - i5 by omega] at this;omega
    have HEn:=hide en
    have HS2:=hide hs2
    have HM2:=hide hM2
    have HOk3:=hide hok3
    have HX:=hide hX
    have hlb:l.length ≤ 1048576:=by omega
    obtain ⟨v0,v1⟩:=two_cells (show Bk wr.drew w1.heap.size 27 #[.string sb,.int .i64 (l.length:Nat)] from HK.out)
    obtain ⟨z0,z1⟩:=two_cells (show Bk ((wr.alloc (.cells #[.string ⟨#[]⟩,.int .i64 0] 27)).drew) w1.heap.size 27 #[.string sb,.int .i64 (l.length:Nat)] from HK.out.alloc _)
    obtain ⟨z2,z3⟩:=two_cells (show Bk (wr.drew.alloc (.cells #[.string ⟨#[]⟩,.int .i64 0] 27)) w1.heap.size 27 #[.string sb,.int .i64 (l.length:Nat)] from (show Bk wr.drew _ _ _ from HK.out).alloc _)
    have HI5:=hide hi5
    have HM5:=hide hm
    have hi5a:i5 ≤ i + 512:=by omega
    have hi5b:i + 512 ≤ i5:=by omega
    have hXm:s.extract i m = X:=hX.symm
    clear hm hi5 e1 hXs hne hs2 hf hdd hok2 hsl hel en hbl hR2 hR2e hok3 hG hM hM2 hj hl HSum HOk HBs hX
    go_wp2_with fail
    go_region_held3 (fun w' => w'.cell? ⟨w1.heap.size,0,none⟩ = some (.string sb) ∧ w'.cell? ⟨w1.heap.size,1,none⟩ = some (.int .i64 (l.length:Nat)))
     (first
     | with_reducible exact ⟨v0,v1⟩
     | with_reducible exact ⟨z0,z1⟩
     | with_reducible exact ⟨z2,z3⟩
     | with_reducible exact ⟨p0,p1⟩
     | with_reducible exact ⟨keep_new p0 _,keep_new p1 _⟩
     | with_reducible exact ⟨keep_set (keep_set p0 (Nat.ne_of_lt hg)) (Nat.ne_of_lt hg),keep_set (keep_set p1 (Nat.ne_of_lt hg)) (Nat.ne_of_lt hg)⟩
     | with_reducible exact ⟨keep_set p0 (Nat.ne_of_lt hg),keep_set p1 (Nat.ne_of_lt hg)⟩)
     (first
     | (go_at_call 67;refine (Calls.mono (HEn.out wr.drew) ?_);rintro e w5 ⟨s5,rfl,hbs5,hb5⟩;have k5:=(show Bk wr.drew w1.heap.size _ _ from HK.out).keep hb5;obtain ⟨p0,p1⟩:=two_cells k5;have K5:=hide k5;have KR5:=hide ((show Bk wr.drew w.heap.size _ _ from HRes.out).keep hb5);have HBs5:=hide hbs5;have HB5:=hide (HBe.out.drew.trans (hb5.mono HBe.out.size));have hz5:wr.heap.size ≤ w5.heap.size:=hb5.size;clear k5 hbs5 hb5)
     | (go_at_call 67;refine (Calls.mono (HEn.out _) ?_);rintro e w5 ⟨s5,rfl,hbs5,hb5⟩;have k5:=(show Bk (wr.drew.alloc (.cells #[.string ⟨#[]⟩,.int .i64 0] 27)) w1.heap.size _ _ from (show Bk wr.drew _ _ _ from HK.out).alloc _).keep hb5;obtain ⟨p0,p1⟩:=two_cells k5;have K5:=hide k5;have KR5:=hide ((show Bk (wr.drew.alloc (.cells #[.string ⟨#[]⟩,.int .i64 0] 27)) w.heap.size _ _ from (show Bk wr.drew _ _ _ from HRes.out).alloc _).keep hb5);have KX5:=hide ((show Bk (wr.drew.alloc (.cells #[.string ⟨#[]⟩,.int .i64 0] 27)) wr.heap.size _ _ from Bk.new wr.drew _ _).keep hb5);obtain ⟨a0,a1⟩:=two_cells KX5.out;have af0:=KX5.out.free 0;have af1:=KX5.out.free 1;have HBs5:=hide hbs5;have HB5:=hide ((HBe.out.drew.alloc HBe.out.size (.cells #[.string ⟨#[]⟩,.int .i64 0] 27)).trans (hb5.mono (by have:=HBe.out.size;simp;omega)));have hz5:wr.heap.size < w5.heap.size:=KX5.out.lt;clear k5 hbs5 hb5))
    · obtain ⟨W,hW⟩:∃ W,W = w5.alloc (.cells #[.string s5,.int .i64 (M:Nat)] 27):=⟨_,rfl⟩
      have KW:Hid (Bk W w1.heap.size 27 #[.string sb,.int .i64 (l.length:Nat)]):=hide (by rw [hW];exact K5.out.alloc _)
      have KRW:Hid (Bk W w.heap.size 27 #[.string ⟨#[]⟩,.int .i64 0]):=hide (by rw [hW];exact KR5.out.alloc _)
      have KN:Hid (Bk W w5.heap.size 27 #[.string s5,.int .i64 (M:Nat)]):=hide (by rw [hW];exact Bk.new w5 _ _)
      have HBW:Hid (Below w.heap.size w W):=hide (by rw [hW];exact HB5.out.alloc HB5.out.size _)
      rw [← hW]
      obtain ⟨gN,hgN⟩:∃ g,g = w5.heap.size:=⟨_,rfl⟩
      have hne:gN ≠ w1.heap.size:=by rw [hgN];omega
      rw [← hgN] at KN ⊢
      obtain ⟨k0,k1⟩:=two_cells KW.out
      have kf0:=KW.out.free 0
      have kf1:=KW.out.free 1
      obtain ⟨x0,x1⟩:=two_cells KN.out
      clear hW hgN v0 v1 z0 z1 z2 z3 p0 p1
      go_wp2_with fail
      go_roundw
      case rel =>
       refine ⟨i5,j + 1,R2,s5,l ++ G,rfl,by go_num,by first | rfl | go_num,by omega,hj2,by rw [← HM2.out];omega,HOk3,hide (by rw [← HM2.out];exact HBs5.out),hide ?_,hide HS2.out,hide ?_,hide ?_⟩
       · rw [← HM2.out];exact (KW.out.set_ 0 (.string s5)).set_ 1 (.int .i64 (M:Nat))
       · exact (KRW.out.far (p:=⟨w1.heap.size,0,none⟩) (Nat.ne_of_lt hg5) _).far (p:=⟨w1.heap.size,1,none⟩) (Nat.ne_of_lt hg5) _
       · exact (HBW.out.setCell (p:=⟨w1.heap.size,0,none⟩) (Nat.le_of_lt hg5) _).setCell (p:=⟨w1.heap.size,1,none⟩) (Nat.le_of_lt hg5) _
      case measure => simp [intOf];omega
    all_goals
     obtain ⟨W,hW⟩:∃ W,W = (w5.setCell ⟨wr.heap.size,0,none⟩ (.string s5)).setCell ⟨wr.heap.size,1,none⟩ (.int .i64 (M:Nat)):=⟨_,rfl⟩
     have KW:Hid (Bk W w1.heap.size 27 #[.string sb,.int .i64 (l.length:Nat)]):=hide (by rw [hW];exact (K5.out.far (p:=⟨wr.heap.size,0,none⟩) (Nat.ne_of_lt hg) _).far (p:=⟨wr.heap.size,1,none⟩) (Nat.ne_of_lt hg) _)
     have KRW:Hid (Bk W w.heap.size 27 #[.string ⟨#[]⟩,.int .i64 0]):=hide (by rw [hW];exact (KR5.out.far (p:=⟨wr.heap.size,0,none⟩) (Nat.ne_of_lt hgw) _).far (p:=⟨wr.heap.size,1,none⟩) (Nat.ne_of_lt hgw) _)
     have KN:Hid (Bk W wr.heap.size 27 #[.string s5,.int .i64 (M:Nat)]):=hide (by rw [hW];exact (KX5.out.set_ 0 (.string s5)).set_ 1 (.int .i64 (M:Nat)))
     have HBW:Hid (Below w.heap.size w W):=hide (by rw [hW];exact (HB5.out.setCell (p:=⟨wr.heap.size,0,none⟩) HBe.out.size _).setCell (p:=⟨wr.heap.size,1,none⟩) HBe.out.size _)
     rw [← hW]
     obtain ⟨gN,hgN⟩:∃ g,g = wr.heap.size:=⟨_,rfl⟩
     have hne:gN ≠ w1.heap.size:=by rw [hgN];omega
     rw [← hgN] at KN ⊢
     obtain ⟨k0,k1⟩:=two_cells KW.out
     have kf0:=KW.out.free 0
     have kf1:=KW.out.free 1
     obtain ⟨x0,x1⟩:=two_cells KN.out
     clear hW hgN v0 v1 z0 z1 z2 z3 p0 p1 a0 a1 af0 af1
     go_wp2_with fail
     go_roundw
     case rel =>
      refine ⟨i5,j + 1,R2,s5,l ++ G,rfl,by go_num,by first | rfl | go_num,by omega,hj2,by rw [← HM2.out];omega,HOk3,hide (by rw [← HM2.out];exact HBs5.out),hide ?_,hide HS2.out,hide ?_,hide ?_⟩
      · rw [← HM2.out];exact (KW.out.set_ 0 (.string s5)).set_ 1 (.int .i64 (M:Nat))
      · exact (KRW.out.far (p:=⟨w1.heap.size,0,none⟩) (Nat.ne_of_lt hg5) _).far (p:=⟨w1.heap.size,1,none⟩) (Nat.ne_of_lt hg5) _
      · exact (HBW.out.setCell (p:=⟨w1.heap.size,0,none⟩) (Nat.le_of_lt hg5) _).setCell (p:=⟨w1.heap.size,1,none⟩) (Nat.le_of_lt hg5) _
     case measure => simp [intOf];omega
  · have hii:s.size ≤ i:=by omega
    have hs2:=HSum.out
    rw [List.drop_eq_nil_of_le (by rw [strL_length];exact hii),allB_nil,List.append_nil] at hs2
    have hj2:j = segsN s.size:=by rw [← hj,show s.size - i = 0 by omega];rfl
    have HS2:=hide hs2
    obtain ⟨k0,k1⟩:=two_cells HK.out
    obtain ⟨x0,x1⟩:=two_cells HRes.out
    have y0:=HRes.out.free 0
    have y1:=HRes.out.free 1
    have HJ2:=hide hj2
    clear hs2 hj2 HSum hj
    go_wp2_with fail
    obtain ⟨t0,t1⟩:=two_cells ((HRes.out.set_ 0 (.string sb)).set_ 1 (.int .i64 (l.length:Nat)))
    refine bodyPost_ret (v:=.tuple #[bstr sb (l.length:Nat),.int .i64 j,.int .i64 0]) (by simp [results,Tryz.results32,go_sem,t0,t1]) rfl ?_
    exact ⟨⟨sb,(l.length:Nat),by rw [HJ2.out],by rw [← HS2.out];exact HBs.out⟩,(HBe.out.setCell (p:=⟨w.heap.size,0,none⟩) (Nat.le_refl _) _).setCell (p:=⟨w.heap.size,1,none⟩) (Nat.le_refl _) _⟩
end Go.Proofs.YtcfnjpokfodmoaaGreatDoor
