/- Lemmas for the row: AudWalk, AudSegs, AudBest. -/
import Derived.Test.YtcfnjpokfodmoaaGreatDoorM31
import Derived.Test.YtcfnjpokfodmoaaGreatDoorM32
import Derived.Test.YtcfnjpokfodmoaaGreatDoorM36
import Derived.Test.YtcfnjpokfodmoaaGreatDoorM37
set_option maxRecDepth 100000
set_option linter.unusedVariables false
namespace Go.Proofs.YtcfnjpokfodmoaaGreatDoor
open Go.RowKit
theorem built_rowC:Array.foldl (fun (cs:Array Value) (x:Value × Nat) => cs.setIfInBounds x.snd x.fst) Tryz.zeroCells156 (List.foldl (fun (cs:Array Value) (x:Value × Nat) => cs.setIfInBounds x.snd x.fst) Tryz.zeroCells82 (vby freshL).zipIdx).zipIdx 0 (List.foldl (fun (cs:Array Value) (x:Value × Nat) => cs.setIfInBounds x.snd x.fst) Tryz.zeroCells82 (vby freshL).zipIdx).size = (vby freshL).toArray:=by kernel_rfl
set_option maxHeartbeats 4000000 in
theorem snew_any (w:World):Calls Tryz.prog 59 #[] w fun e w' => ∃ p,e = .returned (.pointer (some ⟨p,0,none⟩)) ∧ w.heap.size ≤ p ∧ Bk w' p 156 (vby freshL).toArray ∧ Below w.heap.size w w':=by
 have nw:=fun W => new_any W
 have HNw:=hide nw
 clear nw
 go_enter Tryz.func59,Tryz.ntmps59
 go_wp2_with (go_at_call 48;refine (Calls.mono (HNw.out _) ?_);rintro e w1 ⟨rfl,hb1⟩)
 rw [built_rowC]
 go_ret
 exact ⟨_,rfl,hb1.size,Bk.new _ _ _,hb1.alloc hb1.size _⟩
set_option maxHeartbeats 4000000 in
theorem cread_ok (p:Nat) (tt:TypeId) (row:List Nat) (s:ByteArray) (N a:Nat) (q0 q1:Addr) (w:World) {t:List Nat} {a2:Nat} (hr:RowOK row) (h:Bk w p tt (vby row).toArray) (hS:Sent2 w q0 q1) (hB:rightB s N = true) (ha:a ≤ N) (hR:segR s N a = (0,t,a2)) :
 Calls Tryz.prog 97 #[.pointer (some ⟨p,0,none⟩),bstr s N,.int .i64 a] w fun e w' => e = .returned (.tuple #[.string (strOf (fromL row t).1),.int .i64 a2,.int .i64 0]) ∧ Bk w' p tt (vby (fromL row t).2).toArray ∧ Fr (fun k => k = p) w w':=by
 have hplt:=h.lt
 have HP:=hide h
 have rd:=fun (W:World) (hb:Below w.heap.size w W) => read_seg p tt row s N a q0 q1 W hr (h.keep hb) (hS.below hb (Nat.le_refl _)) hB ha
 rw [hR] at rd
 have rd2:∀ (W:World),Below w.heap.size w W → Calls Tryz.prog 49 #[.pointer (some ⟨p,0,none⟩),bstr s N,.int .i64 a] W fun e w' => e = .returned (.tuple #[.string (strOf (fromL row t).1),.int .i64 a2,.int .i64 0]) ∧ Bk w' p tt (vby (fromL row t).2).toArray ∧ Fr (fun k => k = p) W w':=fun W hW => (rd W hW).mono fun e w' hh => by
  obtain ⟨h1,_,h3⟩:=hh
  obtain ⟨h4,h5⟩:=h1 rfl
  exact ⟨h4,h5,h3⟩
 have HRd:=hide rd2
 have hbx:Below w.heap.size w (w.alloc (.cells #[.string s,.int .i64 N] 27)):=(Below.refl _ _).alloc (Nat.le_refl _) _
 have HBx:=hide hbx
 clear rd rd2 hR hS hB hr h hbx
 go_enter Tryz.func97,Tryz.ntmps97
 go_wp2_with fail
 obtain ⟨e0,e1⟩:=two_cells (Bk.new w 27 #[.string s,.int .i64 N])
 go_region_held3 (fun w' => w'.cell? ⟨w.heap.size,0,none⟩ = some (.string s) ∧ w'.cell? ⟨w.heap.size,1,none⟩ = some (.int .i64 N))
  (first | with_reducible exact ⟨e0,e1⟩ | go_keep | with_reducible exact ⟨hf0,hf1⟩)
  (first | (go_at_call 49;refine (Calls.mono (HRd.out _ (below_drewN HBx.out 1)) ?_);rintro e w1 ⟨rfl,hb1,hf⟩;have hf0:=hf.cell (p:=⟨w.heap.size,0,none⟩) (by show ¬ w.heap.size = p;omega) e0;have hf1:=hf.cell (p:=⟨w.heap.size,1,none⟩) (by show ¬ w.heap.size = p;omega) e1;have HB1:=hide hb1;have HF1:=hide hf;clear hb1 hf))
 go_wp2_with fail
 refine bodyPost_ret (v:=.tuple #[.string (strOf (fromL row t).1),.int .i64 a2,.int .i64 0]) (by simp [results,Tryz.results97,go_sem]) rfl ?_
 exact ⟨rfl,HB1.out,(((Fr.refl (fun k => k = p) w).alloc _).drew).trans HF1.out (fun g hg => .inl hg)⟩
set_option maxHeartbeats 4000000 in
theorem cwrite_any (p pw:Nat) (t:TypeId) (row:List Nat) (rw:Option Nat) (l0:List Bool) (s:ByteArray) (w:World) (hr:RowOK row) (h:Bk w p t (vby row).toArray) (hW:Wr w pw rw l0) (hne:p ≠ pw) (hrow:rw ≠ some p) (hs:s.size ≤ 65536) (hl0:l0.length ≤ 1048576) :
 Calls Tryz.prog 60 #[.pointer (some ⟨p,0,none⟩),.pointer (some ⟨pw,0,none⟩),.string s] w fun e w' => e = .returned (.tuple #[]) ∧ ∃ row',Wr w' pw row' (l0 ++ segBits (encZ 0 (toL row (strL s)).1)) ∧ rowNew w rw row' ∧ Bk w' p t (vby (toL row (strL s)).2).toArray ∧ Fr (fun g => g = p ∨ wS pw rw g) w w':=by
 have wa:=write_any p pw t row rw l0 s w hr h hW hne hrow hs hl0
 have HW:=hide wa
 clear wa h hW hr
 go_enter Tryz.func60,Tryz.ntmps60
 go_wp2_with (go_at_call 62;refine (Calls.mono HW.out ?_);rintro e w1 ⟨rfl,hh⟩;have HH:=hide hh;clear hh)
 go_end0
 exact ⟨rfl,HH.out⟩
set_option maxHeartbeats 4000000 in
theorem walk_any (s:ByteArray) (N:Nat) (c:List Nat) (q0 q1:Addr) (w:World) (hS:Sent2 w q0 q1) (hB:Bs s N (allL c)) (hc:∀ x ∈ c,x < 256) (hl:c.length ≤ 4096) :
 Calls Tryz.prog 57 #[bstr s N,.int .i64 (segsN c.length:Nat)] w fun e w' => ∃ A k,e = .returned (.slice A (statsL c).length k) ∧ Rd w' w'.heap.size A (flat6 (statsL c)) ∧ (∀ a,A = some a → w.heap.size ≤ a.block) ∧ Below w.heap.size w w':=by
 have hBr:rightB s N = true:=hB.1
 have hBn:N = (allL c).length:=by have:=hB.2.1;omega
 have hBb:bitsL s N = allL c:=by rw [hBn];exact hB.2.2
 obtain ⟨i0,hi,hz0,hz1,hz2i⟩:=info_parts info_stat
 have nw:=fun (W:World) => snew_any W
 have hS2:=fun (W:World) (hW:Below w.heap.size w W) => hS.below hW (Nat.le_refl _)
 have HNw:=hide nw
 have HS:=hide hS2
 have HBr:=hide hBr
 have HBb:=hide hBb
 have HC:=hide hc
 clear nw hS2 hS hB hBr hBb hc hBn
 go_enter Tryz.func57,Tryz.ntmps57
 go_wp2_with (go_at_call 59;refine (Calls.mono (HNw.out _) ?_);rintro e w1 ⟨p,rfl,hp,hk1,hb1⟩;have HK1:=hide hk1;have HB1:=hide hb1;clear hk1 hb1)
 have hp1:w.heap.size + 1 ≤ p:=by simpa using hp
 have hz1':=HB1.out.size
 simp only [World.size_alloc] at hz1'
 have hb0:Bk w1 w.heap.size 27 #[.string s,.int .i64 N]:=(Bk.new w _ _).below HB1.out (by simp)
 have hbe:Below w.heap.size w w1:=((Below.refl _ w).alloc (Nat.le_refl _) _).trans (HB1.out.mono (by simp))
 have HB0:=hide hb0
 have HBe:=hide hbe
 have hsn:segsN c.length ≤ 8:=by unfold segsN;omega
 have hsl:(statsL c).length = segsN c.length:=statsB_len _ _ _ (Nat.le_refl _)
 clear hb0 hbe HB1 hp HNw
 obtain ⟨M,hM⟩:∃ M,M = segsN c.length:=⟨_,rfl⟩
 rw [← hM] at hsn hsl ⊢
 have HM:=hide hM
 have HSl:=hide hsl
 clear hM hsl
 go_loopw [5,7,13] (fun v at_ i wr => ∃ (k a:Nat) (l row:List Nat) (acc:List (List Nat)),i = .int .i64 k ∧ at_ = .int .i64 a ∧ l.length ≤ 4096 ∧ k + segsN l.length = M ∧ a ≤ N ∧ acc.length = k ∧ RowOK row ∧ Hid (∀ x ∈ l,x < 256) ∧ Hid ((bitsL s N).drop a = allB l.length row l) ∧ Hid (acc ++ statsB l.length row l = statsL c) ∧ Hid (wr.ownsRow (w.heap.size + 1) 53 6 v acc.length (flat6 acc)) ∧ Hid (Bk wr p 156 (vby row).toArray) ∧ Hid (Bk wr w.heap.size 27 #[.string s,.int .i64 N]) ∧ Hid (Below w.heap.size w wr)) (fun _ _ i _ => M - (intOf i).toNat)
 case atStart =>
  exact ⟨0,0,c,freshL,[],rfl,rfl,hl,by rw [HM.out];omega,by omega,rfl,fresh_ok,HC,hide (by rw [List.drop_zero,HBb.out];rfl),hide (by rw [List.nil_append];rfl),hide (World.ownsRow_nil _ _ _ _),HK1,HB0,HBe⟩
 case round =>
  clear HK1 HB0 HBe
  obtain ⟨k,a,l,row,acc,rfl,rfl,hll,hsum,ha,hak,hok,hlt,hbits,hst,hown,hk,hbs,hbe⟩:=hrel
  obtain ⟨e0,e1⟩:=two_cells hbs.out
  by_cases hkM:k < M
  · have hsp:0 < segsN l.length:=by omega
    have hne:l ≠ []:=by rintro rfl;simp [segsN] at hsp
    obtain ⟨f,hf⟩:∃ f,l.length = f + 1:=⟨l.length - 1,by have:=List.length_pos_iff.2 hne;omega⟩
    have hto:=toL_ok hok (s:=l.take 512) (fun x hx => hlt.out x (List.mem_of_mem_take hx))
    have hft:=from_to hok (s:=l.take 512) (fun x hx => hlt.out x (List.mem_of_mem_take hx))
    have hb:=hbits.out
    have hs:=hst.out
    rw [hf,allB,if_neg hne,allB_fuel f (l.drop 512).length _ _ (by rw [List.length_drop];omega) (Nat.le_refl _)] at hb
    rw [hf,statsB,if_neg hne,statsB_fuel f (l.drop 512).length _ _ (by rw [List.length_drop];omega) (Nat.le_refl _)] at hs
    obtain ⟨t,ht⟩:∃ t,t = (toL row (l.take 512)).1:=⟨_,rfl⟩
    obtain ⟨row2,hrow2⟩:∃ r,r = (toL row (l.take 512)).2:=⟨_,rfl⟩
    rw [← ht,← hrow2] at hb hs hto
    rw [← hrow2] at hft
    rw [← ht] at hft
    have htl:t.length ≤ 512:=by rw [hto.2.2,List.length_take];omega
    have htne:t ≠ []:=fun e => by
     have:=hto.2.2
     rw [e,List.length_take,hf,List.length_nil] at this
     omega
    obtain ⟨a2,r1,r2,r3,r4⟩:=seg_there ha hto.2.1 htne htl hb
    have hlook:(bitsL s N).drop a = segBits (encZ 0 t) ++ (bitsL s N).drop a2:=by rw [r2];exact hb
    have hsz:(strOf (fromL row t).1).size = t.length:=by rw [hft,strOf_size,hto.2.2]
    have rd:=cread_ok p 156 row s N a q0 q1 wr hok hk.out (HS.out wr hbe.out) HBr.out ha r1
    have lk:=fun (W:World) (hW:Below w.heap.size w W) => look_any t s N a a2 q0 q1 W (HS.out W hW) HBr.out ha r3 hto.2.1 htl hlook
    rw [hft] at rd hsz
    simp only [] at rd hsz
    have hgd:=stat6_good hto.2.1 htne htl
    obtain ⟨n0,n1,n2,n3,n4,n5,hs6,_⟩:=hgd
    rw [hs6] at lk
    simp only [List.map_cons,List.map_nil] at lk
    have hd512:(l.drop 512).length ≤ 4096:=by rw [List.length_drop];omega
    have hseg:k + 1 + segsN (l.drop 512).length = M:=by
     rw [List.length_drop,← hsum,segsN_step (n:=l.length) (by omega)]
     omega
    have hlt2:∀ x ∈ l.drop 512,x < 256:=fun x hx => hlt.out x (List.mem_of_mem_drop hx)
    rw [hs6] at hs
    obtain ⟨X,hX⟩:∃ X,X = strOf (l.take 512):=⟨_,rfl⟩
    rw [← hX] at rd hsz
    have hszI:(X.size:Int) = (t.length:Nat):=by omega
    have HRd:=hide rd
    have HLk:=hide lk
    have HR2:=hide r2
    have HHs:=hide hs
    have HOk2:=hide hto.1
    have HLt2:=hide hlt2
    obtain ⟨A0,c0,rfl⟩:=own_formG hown.out
    have HAk:=hide hak
    have hak8:acc.length ≤ 8:=by omega
    have hpe:=Bk.ne_ (t:=156) (t':=27) hk.out hbs.out (by decide)
    clear rd lk r1 r2 r4 hs hto hft hb hlook hsz hlt2 hst hbits hlt hok hf hne hX ht hrow2 hs6 hsum hsp hak
    go_wp2_with (first
     | (go_at_call 98;refine (Calls.mono (HLk.out _ hbe2.out) ?_);rintro e w3 ⟨rfl,hb3⟩;have hown3:=hide (own_fr hown2.out (Fr.below hb3 (fun _ => False)) (fun _ _ h => h));have hk3:=hide (hk2.out.keep hb3);have hbs3:=hide (hbs2.out.keep hb3);have hbe3:=hide (hbe2.out.trans (hb3.mono hbe2.out.size));clear hb3)
     | (go_at_call 97;refine (Calls.mono HRd.out ?_);rintro e w2 ⟨rfl,hkk,hff⟩;have hown2:=hide (own_fr hown.out hff (fun g hg e => own_ne hown.out hk.out (by decide) (by rw [hg,e])));have hk2:=hide hkk;have hbs2:=hide (hbs.out.fr hff (fun e => hpe e.symm));have hbe2:=hide (hbe.out.trans (hff.toBelowB (fun g hg => by omega) hbe.out.size));obtain ⟨e2,e3⟩:=two_cells hbs2.out;clear e0 e1 hkk hff)
     | (at_builtin;refine wpList_append_own _ rfl (.tmp 23) (.tmp 30) 46 rfl (w.heap.size + 1) 53 i0 _ 6 48 Tryz.underlying46 hi hz0 hz1 hz2i rfl (by decide) _ acc.length (flat6 acc) rfl (hown3.out.alloc _) ⟨w3.heap.size,0,none⟩ 1 1 [.int .i64 (n0:Nat),.int .i64 (n1:Nat),.int .i64 (n2:Nat),.int .i64 (n3:Nat),.int .i64 (n4:Nat),.int .i64 (n5:Nat)] rfl rfl (fun j u hj => (by rw [Addr.add_lit,Nat.zero_add];exact ((Bk.new _ _ _).cell j).trans (by simpa using hj))) (by intro u hu;simp at hu;rcases hu with rfl | rfl | rfl | rfl | rfl | rfl <;> rfl) (by unfold maxLen;omega) (by omega) (by have:=hbe3.out.size;have:=hbs3.out.lt;simp;omega) ?_;intro v4 w4 hown4 hgr4 _;have hne4:=own_ne hown3.out hk3.out (show (53:TypeId) ≠ 156 from by decide);have hne5:=own_ne hown3.out hbs3.out (show (53:TypeId) ≠ 27 from by decide);have hk4:=hide ((hk3.out.alloc (.cells #[.int .i64 (n0:Nat),.int .i64 (n1:Nat),.int .i64 (n2:Nat),.int .i64 (n3:Nat),.int .i64 (n4:Nat),.int .i64 (n5:Nat)] 53)).grown hgr4 hne4);have hbs4:=hide ((hbs3.out.alloc (.cells #[.int .i64 (n0:Nat),.int .i64 (n1:Nat),.int .i64 (n2:Nat),.int .i64 (n3:Nat),.int .i64 (n4:Nat),.int .i64 (n5:Nat)] 53)).grown hgr4 hne5);have hbe4:=hide ((hbe3.out.alloc hbe3.out.size (.cells #[.int .i64 (n0:Nat),.int .i64 (n1:Nat),.int .i64 (n2:Nat),.int .i64 (n3:Nat),.int .i64 (n4:Nat),.int .i64 (n5:Nat)] 53)).grown hgr4 (by have:=hbe3.out.size;simp;omega) (fun g hg => by have:=((hown3.out.alloc (.cells #[.int .i64 (n0:Nat),.int .i64 (n1:Nat),.int .i64 (n2:Nat),.int .i64 (n3:Nat),.int .i64 (n4:Nat),.int .i64 (n5:Nat)] 53)).lt g hg).1;omega));obtain ⟨A4,c4,rfl⟩:=own_formG hown4;have hO4:=hide hown4;clear hown4 hgr4 hne4 hne5))
    go_roundw
    case rel =>
     exact ⟨k + 1,a2,l.drop 512,row2,acc ++ [[n0,n1,n2,n3,n4,n5]],by go_num,rfl,hd512,hseg,r3,by rw [List.length_append,HAk.out];rfl,HOk2.out,HLt2,HR2,hide (by rw [List.append_assoc];exact HHs.out),hide (by rw [flat6_snoc,List.length_append];exact hO4.out),hk4,hbs4,hbe4⟩
    case measure => simp [intOf];omega
  · have hl0:segsN l.length = 0:=by omega
    have hle:l = []:=by
     cases l with
     | nil => rfl
     | cons x l => unfold segsN at hl0;rw [List.length_cons] at hl0;omega
    subst hle
    have hs:=hst.out
    rw [statsB_nil,List.append_nil] at hs
    obtain ⟨A0,c0,rfl⟩:=own_formG hown.out
    have HHs:=hide hs
    have hlo:∀ a,A0 = some a → w.heap.size + 1 ≤ a.block:=fun a ha => (hown.out.lt a.block (by subst ha;rfl)).1
    have HLo:=hide hlo
    clear hs hst hbits hlt hsum hl0 hak hlo
    go_wp2_with fail
    go_ret
    refine ⟨A0,c0,(by rw [← HHs.out];rfl), ?_,fun a ha => by have:=HLo.out a ha;omega,hbe.out⟩
    rw [← HHs.out]
    exact own_rdG hown.out
def SegsP (s:List Nat) (w:World) (e:Ending) (w':World):Prop :=
 (((openR s).1 ≠ 0 ∧ e = .returned (.tuple #[.slice none 0 0,.int .i64 (openR s).1])) ∨ ((openR s).1 = 0 ∧ ∃ A k ls,segsT s = some ls ∧ e = .returned (.tuple #[.slice A ls.length k,.int .i64 0]) ∧ Rd w' w'.heap.size A (flat6 ls) ∧ (∀ a,A = some a → w.heap.size ≤ a.block))) ∧ Below w.heap.size w w'
set_option maxHeartbeats 4000000 in
theorem segments_any (s:ByteArray) (q0 q1:Addr) (w:World) (hS:Sent2 w q0 q1) (hT:ErrT w) (h64:s.size ≤ 1000000):Calls Tryz.prog 26 #[.string s] w (SegsP (strL s) w):=by
 have op:=bopenN_any s q0 q1 w hS hT h64
 obtain ⟨z,t,hR⟩:∃ z t,openR (strL s) = (z,t):=⟨_,_,rfl⟩
 rw [hR] at op
 have HOp:=hide op
 clear op
 by_cases hz:z = 0
 · subst hz
   have ho:=openR_opened.1 hR
   obtain ⟨c,g1,g2,g3,g4,g5,g6,g7⟩:=opened_stats ho
   have hpw:partsW (strL s) = 0:=partsW_zero.2 ⟨ho.1,ho.2.1,ho.2.2.1⟩
   have pt:=fun (W:World) (hW:Below w.heap.size w W) => partsN_any s W h64 (hT.keep hW)
   unfold partsH partsV at pt
   rw [if_pos hpw,if_pos hpw,hpw] at pt
   have wk:=fun (W:World) (hW:Below w.heap.size w W) => walk_any (boxB (strL s)) (fieldsL (strL s)).bits c q0 q1 W (hS.below hW (Nat.le_refl _)) g5 g1 g2
   rw [g4] at wk
   have hseg:(fieldsL (strL s)).segs ≤ 8:=by rw [← g4];unfold segsN;omega
   obtain ⟨H,hH⟩:∃ H,H = fieldsL (strL s):=⟨_,rfl⟩
   obtain ⟨P,hP⟩:∃ P,P = boxB (strL s):=⟨_,rfl⟩
   rw [← hH,← hP] at pt wk
   rw [← hH] at hseg
   obtain ⟨x0,x1,x2,x3,x4⟩:=H
   have pt2:∀ (W:World),Below w.heap.size w W → Calls Tryz.prog 19 #[.string s] W fun e w' => e = .returned (.tuple #[.agg #[.int .u64 x0,.int .u64 x1,.int .u32 x2,.int .u64 x3,.int .u64 x4],.agg #[.string P,.int .i64 x4],.int .i64 0]) ∧ Below W.heap.size W w':=fun W hW => pt W hW
   have hx3:(x3:Int) ≤ 8:=by have:x3 ≤ 8:=hseg;omega
   have HPt:=hide pt2
   have HWk:=hide wk
   have HG7:=hide g7
   have HR:=hide hR
   clear pt pt2 wk g1 g3 g4 g5 g6 g7 hH hP hseg ho hpw hS hT hR
   go_enter Tryz.func26,Tryz.ntmps26
   go_upto_region 4 with (go_at_call 16;refine (Calls.mono HOp.out ?_);rintro e w1 ⟨rfl,hb1⟩;have HB1:=hide hb1;clear hb1)
   go_upto_region 5 with (go_at_call 19;refine (Calls.mono (HPt.out _ HB1.out) ?_);rintro e w2 ⟨rfl,hb2⟩;have HB2:=hide (HB1.out.trans (hb2.mono HB1.out.size));clear hb2 HB1)
   have k7:Bk ((w2.alloc (.cells #[.int .u64 x0,.int .u64 x1,.int .u32 x2,.int .u64 x3,.int .u64 x4] 25)).alloc (.cells #[.string P,.int .i64 x4] 27)) w2.heap.size 25 #[.int .u64 x0,.int .u64 x1,.int .u32 x2,.int .u64 x3,.int .u64 x4]:=(Bk.new w2 _ _).alloc _
   have k8:Bk ((w2.alloc (.cells #[.int .u64 x0,.int .u64 x1,.int .u32 x2,.int .u64 x3,.int .u64 x4] 25)).alloc (.cells #[.string P,.int .i64 x4] 27)) (w2.heap.size + 1) 27 #[.string P,.int .i64 x4]:=Bk.new1 w2 _ _ _
   have be3:=(HB2.out.alloc HB2.out.size (.cells #[.int .u64 x0,.int .u64 x1,.int .u32 x2,.int .u64 x3,.int .u64 x4] 25)).alloc (by have:=HB2.out.size;simp;omega) (.cells #[.string P,.int .i64 x4] 27)
   obtain ⟨⟨c0,c1,c2,c3,c4⟩,_⟩:=five_cells k7
   obtain ⟨c5,c6⟩:=two_cells k8
   obtain ⟨W3,hW3⟩:∃ W,W = (w2.alloc (.cells #[.int .u64 x0,.int .u64 x1,.int .u32 x2,.int .u64 x3,.int .u64 x4] 25)).alloc (.cells #[.string P,.int .i64 x4] 27):=⟨_,rfl⟩
   rw [← hW3] at c0 c1 c2 c3 c4 c5 c6 be3 ⊢
   have HBe3:=hide be3
   clear hW3 k7 k8 be3
   go_wp2_with (go_at_call 57;refine (Calls.mono (HWk.out _ HBe3.out) ?_);rintro e w4 ⟨A,k,rfl,hr,hlo,hb4⟩;have HRr:=hide hr;have HLo:=hide hlo;have HB4:=hide (HBe3.out.trans (hb4.mono HBe3.out.size));clear hr hlo hb4)
   go_ret2
   refine ⟨.inr ⟨by rw [HR.out],A,k,statsL c,HG7.out,rfl,HRr.out,fun a ha => Nat.le_trans HBe3.out.size (HLo.out a ha)⟩,HB4.out⟩
 · have d0:(z == 0) = false:=by simpa using hz
   have d1:(z != 0) = true:=by simpa using hz
   have HR:=hide hR
   clear hR hS hT
   go_enter Tryz.func26,Tryz.ntmps26
   go_wp2_with (go_at_call 16;refine (Calls.mono HOp.out ?_);rintro e w1 ⟨rfl,hb1⟩;have HB1:=hide hb1;clear hb1)
   go_ret2
   exact ⟨.inl ⟨(by rw [HR.out];exact hz),(by rw [HR.out];rfl)⟩,HB1.out⟩
set_option maxHeartbeats 4000000 in
theorem aholds_any (s t:ByteArray) (q0 q1:Addr) (w:World) (hS:Sent2 w q0 q1) (hT:ErrT w) (h64:s.size ≤ 1000000):Calls Tryz.prog 29 #[.string s,.string t] w fun e w' => e = .returned (.bool (decide (openR (strL s) = (0,strL t)))) ∧ Below w.heap.size w w':=by
 have op:=bopenN_any s q0 q1 w hS hT h64
 obtain ⟨z,u,hR⟩:∃ z t,openR (strL s) = (z,t):=⟨_,_,rfl⟩
 have hu:z = 0 → ∀ x ∈ u,x < 256:=fun e => (openR_opened.1 (by rw [hR,e])).lt
 rw [hR] at op ⊢
 have HOp:=hide op
 clear op hS hT
 by_cases hz:z = 0
 · subst hz
   have hb:((strOf u).toList == t.toList) = decide (((0:Int),u) = (0,strL t)):=by
    by_cases h:u = strL t
    · subst h;rw [strOf_strL];simp
    · have:strOf u ≠ t:=fun e => h (by rw [← e,strL_of (hu rfl)])
      rw [decide_eq_false (fun e => h (Prod.mk.inj e).2)]
      rw [beq_eq_false_iff_ne]
      intro e
      apply this
      rw [Lib.toList_data,Lib.toList_data] at e
      exact ByteArray.ext (Array.toList_inj.1 e)
   have HB:=hide hb
   clear hb hu hR
   go_enter Tryz.func29,Tryz.ntmps29
   go_wp2_with (go_at_call 16;refine (Calls.mono HOp.out ?_);rintro e w1 ⟨rfl,hb1⟩;have HB1:=hide hb1;clear hb1)
   go_ret
   exact ⟨(by rw [← HB.out];rfl),HB1.out⟩
 · have d1:(z == 0) = false:=by simpa using hz
   have hd:decide ((z,u) = (0,strL t)) = false:=decide_eq_false (fun e => hz (Prod.mk.inj e).1)
   rw [hd]
   clear hd hu hR
   go_enter Tryz.func29,Tryz.ntmps29
   go_wp2_with (go_at_call 16;refine (Calls.mono HOp.out ?_);rintro e w1 ⟨rfl,hb1⟩;have HB1:=hide hb1;clear hb1)
   go_ret
   exact ⟨rfl,HB1.out⟩
set_option maxHeartbeats 4000000 in
theorem best_any (s:ByteArray) (w:World) (hs:s.size ≤ 4096) :
 Calls Tryz.prog 28 #[.string s] w fun e w' => (∃ es,IsEnds (strL s) es ∧ e = .returned (.tuple #[.int .i64 ((allL (colL (strL s) es)).length:Nat),.int .i64 0])) ∧ Below w.heap.size w w':=by
 have co:=column_any s w hs
 have nw:=fun (W:World) => snew_any W
 have HCo:=hide co
 have HNw:=hide nw
 clear co nw
 go_enter Tryz.func28,Tryz.ntmps28
 go_upto_region 4 with (go_at_call 20;refine (Calls.mono HCo.out ?_);rintro e w1 ⟨es,hes,rfl,hb1⟩;have HEs:=hide hes;have HB1:=hide hb1;clear hes hb1)
 have hcl:(colL (strL s) es).length = s.size:=by rw [colL_len HEs.out,strL_length]
 have hc:=colL_lt (es:=es) (strL_lt s)
 have hCs:(strOf (colL (strL s) es)).size = s.size:=by rw [strOf_size,hcl]
 have hCl:strL (strOf (colL (strL s) es)) = colL (strL s) es:=strL_of hc
 obtain ⟨F,hF⟩:∃ F,F = allL (colL (strL s) es):=⟨_,rfl⟩
 obtain ⟨C,hC⟩:∃ C,C = strOf (colL (strL s) es):=⟨_,rfl⟩
 rw [← hC] at hCs hCl ⊢
 rw [← hCl] at hF
 have HF:=hide hF
 have hFl:F.length = (allL (colL (strL s) es)).length:=by rw [hF,hCl]
 have HFl:=hide hFl
 clear hF hcl hc hC hCl hFl
 go_upto_region 5 with (go_at_call 59;refine (Calls.mono (HNw.out _) ?_);rintro e w2 ⟨p,rfl,hp,hk2,hb2⟩;have HK2:=hide hk2;have HB2:=hide (HB1.out.trans (hb2.mono HB1.out.size));have hp2:=Nat.le_trans HB1.out.size hp;clear hk2 hb2)
 have hplt:=HK2.out.lt
 go_loopw [4] (fun tx wr => ∃ (j:Nat) (sk:ByteArray) (row:List Nat) (l:List Bool) (rk:Option Nat),tx = .string sk ∧ sk.size ≤ 4096 ∧ j + segsN sk.size = segsN C.size ∧ l.length ≤ 28000 * j ∧ RowOK row ∧ Hid (Wr wr w2.heap.size rk l) ∧ (∀ g,rk = some g → w2.heap.size ≤ g) ∧ Hid (Bk wr p 156 (vby row).toArray) ∧ Hid (l ++ allB sk.size row (strL sk) = F) ∧ Hid (Below w.heap.size w wr)) (fun tx _ => match tx with | .string sk => sk.size | _ => 0)
 case atStart =>
  refine ⟨0,C,freshL,[],none,rfl,by omega,by omega,by simp,fresh_ok,hide (Wr.new w2),(fun g hg => by cases hg),hide (HK2.out.alloc _),hide ?_,hide (HB2.out.alloc HB2.out.size _)⟩
  rw [HF.out];unfold allL;rw [strL_length,List.nil_append]
 case round =>
  clear HK2
  obtain ⟨j,sk,row,l,rk,rfl,hsk,hj,hl,hok,hwr,hrk,hbk,hsum,hbe⟩:=hrel
  have hj8:j ≤ 8:=by unfold segsN at hj;omega
  have hB2s:=HB2.out.size
  by_cases h0:sk.size = 0
  · have:=size_zero h0
    subst this
    have hs2:=hsum.out
    rw [show (strL ⟨#[]⟩) = [] from rfl,allB_nil,List.append_nil] at hs2
    have ln:=len_any w2.heap.size rk l wr hwr.out (by omega)
    have HLn:=hide ln
    have HS2:=hide hs2
    clear ln hs2 hsum hj h0 hsk
    go_wp2_with (go_at_call 61;refine (Calls.mono HLn.out ?_);rintro e w6 ⟨rfl,j6,rfl⟩)
    go_ret2
    exact ⟨⟨es,HEs.out,(by rw [← HFl.out,← HS2.out];rfl)⟩,below_drewN hbe.out _⟩
  · have hE:=not_empty h0
    obtain ⟨k,hk⟩:∃ k:Nat,k = min 512 sk.size:=⟨_,rfl⟩
    have hkI:(min (512:Int) (sk.size:Int)) = (k:Int):=by omega
    have hkl:k ≤ sk.size:=by omega
    have hk512:k ≤ 512:=by omega
    have e1:strL (sk.extract 0 k) = (strL sk).take 512:=by
     rw [strL_sub,List.drop_zero,hk]
     rcases Nat.le_total 512 sk.size with g | g
     · rw [Nat.min_eq_left g]
     · rw [Nat.min_eq_right g,List.take_of_length_le (by rw [strL_length];exact Nat.le_refl _),List.take_of_length_le (by rw [strL_length];exact g)]
    have e2:strL (sk.extract k sk.size) = (strL sk).drop 512:=by
     rw [strL_sub,List.take_of_length_le (by rw [strL_length];exact Nat.le_refl _),hk]
     rcases Nat.le_total 512 sk.size with g | g
     · rw [Nat.min_eq_left g]
     · rw [Nat.min_eq_right g,List.drop_eq_nil_of_le (by rw [strL_length];exact Nat.le_refl _),List.drop_eq_nil_of_le (by rw [strL_length];exact g)]
    have e3:(sk.extract k sk.size).size = sk.size - k:=by rw [← strL_length,e2,List.length_drop,strL_length];omega
    have e4:(sk.extract 0 k).size = k:=by rw [← strL_length,e1,List.length_take,strL_length];omega
    have hne:strL sk ≠ []:=fun e => h0 (by rw [← strL_length,e];rfl)
    have hs2:=hsum.out
    obtain ⟨f,hf⟩:∃ f,sk.size = f + 1:=⟨sk.size - 1,by omega⟩
    rw [hf,allB,if_neg hne,allB_fuel f (sk.extract k sk.size).size _ _ (by rw [List.length_drop,strL_length];omega) (by rw [List.length_drop,strL_length,e3];omega),← e1,← e2,← List.append_assoc] at hs2
    have hap:=hwr.out.apart hbk.out (by decide) (by decide)
    have wr_:=cwrite_any p w2.heap.size 156 row rk l (sk.extract 0 k) wr hok hbk.out hwr.out (by omega) (fun e => hap (.inr e)) (by omega) (by omega)
    have hok2:=toL_ok hok (strL_lt (sk.extract 0 k))
    have hbl:=segBits_len (l:=encZ 0 (toL row (strL (sk.extract 0 k))).1) (fun x hx => by have:=encZ_sym 0 hok2.2.1 x hx;omega)
    have hel:=encZ_snoc_len (toL row (strL (sk.extract 0 k))).1 0
    rw [hok2.2.2,strL_length,e4] at hel
    have hnj:j + 1 + segsN (sk.size - k) = segsN C.size:=by
     rw [← hj,segsN_step (n:=sk.size) (by omega)]
     have:segsN (sk.size - k) = segsN (sk.size - 512):=by unfold segsN;omega
     omega
    obtain ⟨R,hR⟩:∃ R,R = (toL row (strL (sk.extract 0 k))).2:=⟨_,rfl⟩
    obtain ⟨Q,hQ⟩:∃ Q,Q = segBits (encZ 0 (toL row (strL (sk.extract 0 k))).1):=⟨_,rfl⟩
    rw [← hR] at hs2 wr_ hok2
    rw [← hQ] at hs2 wr_ hbl
    obtain ⟨X,hX⟩:∃ X,X = sk.extract 0 k:=⟨_,rfl⟩
    obtain ⟨Y,hY⟩:∃ Y,Y = sk.extract k sk.size:=⟨_,rfl⟩
    rw [← hX] at wr_
    rw [← hY] at hs2 e3
    have hQl:(l ++ Q).length ≤ 28000 * (j + 1):=by rw [List.length_append];omega
    have HW:=hide wr_
    have HS2:=hide hs2
    have HOk2:=hide hok2.1
    have hXs:=hX.symm
    have hYs:=hY.symm
    clear hk e1 e2 e4 hne hs2 hsum hf hap wr_ hok2 hbl hel hR hQ hX hY hj
    go_wp2_with (go_at_call 60;refine (Calls.mono HW.out ?_);rintro e w5 ⟨rfl,row5,hw5,hn5,hb5,hf5⟩;have HW5:=hide hw5;have HN5:=hide hn5;have HB5:=hide hb5;have HF5:=hide hf5;clear hw5 hn5 hb5 hf5)
    have hz:=hbe.out.size
    have hS5:∀ g,(g = p ∨ wS w2.heap.size rk g) → w.heap.size ≤ g:=fun g hg => by
     rcases hg with hg | hg | hg
     · omega
     · omega
     · have:=hrk g hg;omega
    go_roundw
    case rel =>
     refine ⟨j + 1,Y,R,l ++ Q,row5,rfl,by omega,by rw [e3];exact hnj,hQl,HOk2.out,HW5,fun g hg => ?_,HB5,HS2,hide (hbe.out.trans (HF5.out.toBelowB hS5 hz))⟩
     rcases HN5.out with e | ⟨g',e,hg'⟩
     · exact hrk g (by rw [← e,hg])
     · rw [e] at hg;cases hg;have:=hwr.out.lt.1;omega
    case measure => simp;omega
end Go.Proofs.YtcfnjpokfodmoaaGreatDoor
