/- Lemmas for the row: HeadB, Parts, Open, OpenB, PartsB, Build, Lives24P. -/
import Derived.Test.YtcfnjpokfodmoaaGreatDoorM01
import Derived.Test.YtcfnjpokfodmoaaGreatDoorM31
import Derived.Test.YtcfnjpokfodmoaaGreatDoorM32
import Derived.Test.YtcfnjpokfodmoaaGreatDoorM34
import Derived.Deep.RegionHeld3
set_option maxRecDepth 100000
set_option linter.unusedVariables false
namespace Go.Proofs.YtcfnjpokfodmoaaGreatDoor
open Go.RowKit
set_option maxHeartbeats 4000000 in
theorem headN_any (s:ByteArray) (w:World) (h64:s.size ≤ 1000000) (hT:ErrT w):Calls Tryz.prog 17 #[.string s] w fun e w' => e = .returned (.tuple #[headV (headH (strL s)),.int .i64 (headW (strL s))]) ∧ Below w.heap.size w w':=by
 have hd:=fun (W:World) => head_any s W h64
 have nm:=fun (z:Int) (B:Nat) (v:Value) (W:World) (h:ErrV z B v W) (hT:ErrT W) => number_any z B v W h hT
 obtain ⟨Z,hZ⟩:∃ Z,Z = headW (strL s):=⟨_,rfl⟩
 obtain ⟨H,hH⟩:∃ H,H = headH (strL s):=⟨_,rfl⟩
 unfold HeadP at hd
 rw [← hZ,← hH] at hd
 rw [← hZ,← hH]
 obtain ⟨x0,x1,x2,x3,x4⟩:=H
 have HHd:=hide hd
 have HNm:=hide nm
 have HK:=hide (Bk.new w 25 #[.int .u64 0,.int .u64 0,.int .u32 0,.int .u64 0,.int .u64 0])
 have HBe:Hid (Below w.heap.size w (w.alloc (.cells #[.int .u64 0,.int .u64 0,.int .u32 0,.int .u64 0,.int .u64 0] 25))):=hide ((Below.refl _ w).alloc (Nat.le_refl _) _)
 have HT:=hide (hT.alloc (.cells #[.int .u64 0,.int .u64 0,.int .u32 0,.int .u64 0,.int .u64 0] 25))
 clear hd nm hZ hH hT
 unfold headV at HHd ⊢
 go_enter Tryz.func17,Tryz.ntmps17
 go_wp2_with (go_at_call 43;refine (Calls.mono (HHd.out _) ?_);rintro e w1 ⟨⟨v1,rfl,he1⟩,hb1⟩;have HE1:=hide he1;have HB1:=hide hb1;have hz1:=hb1.size;simp only [World.size_alloc] at hz1;clear he1 hb1)
 have hk1:Bk (w1.alloc (.cells #[.int .u64 x0,.int .u64 x1,.int .u32 x2,.int .u64 x3,.int .u64 x4] 25)) w1.heap.size 25 #[.int .u64 x0,.int .u64 x1,.int .u32 x2,.int .u64 x3,.int .u64 x4]:=Bk.new w1 _ _
 have hk0:Bk (w1.alloc (.cells #[.int .u64 x0,.int .u64 x1,.int .u32 x2,.int .u64 x3,.int .u64 x4] 25)) w.heap.size 25 #[.int .u64 0,.int .u64 0,.int .u32 0,.int .u64 0,.int .u64 0]:=(HK.out.keep HB1.out).alloc _
 have hbe:Below w.heap.size w (w1.alloc (.cells #[.int .u64 x0,.int .u64 x1,.int .u32 x2,.int .u64 x3,.int .u64 x4] 25)):=(HBe.out.trans (HB1.out.mono (by simp))).alloc (by omega) _
 have he1:=HE1.out.alloc (.cells #[.int .u64 x0,.int .u64 x1,.int .u32 x2,.int .u64 x3,.int .u64 x4] 25)
 have ht1:=(HT.out.keep HB1.out).alloc (.cells #[.int .u64 x0,.int .u64 x1,.int .u32 x2,.int .u64 x3,.int .u64 x4] 25)
 obtain ⟨W1,hW1⟩:∃ W,W = w1.alloc (.cells #[.int .u64 x0,.int .u64 x1,.int .u32 x2,.int .u64 x3,.int .u64 x4] 25):=⟨_,rfl⟩
 rw [← hW1] at hk1 hk0 hbe he1 ht1 ⊢
 have nm:=HNm.out Z _ v1 W1.drew he1 ht1
 obtain ⟨⟨r0,r1,r2,r3,r4⟩,_⟩:=five_cells (show Bk W1.drew w1.heap.size 25 #[.int .u64 x0,.int .u64 x1,.int .u32 x2,.int .u64 x3,.int .u64 x4] from hk1)
 obtain ⟨⟨b0,b1,b2,b3,b4⟩,⟨f0,f1,f2,f3,f4⟩⟩:=five_cells hk0
 have hlt1:=hk1.lt
 have hne:w.heap.size ≠ w1.heap.size:=by omega
 have hne2:w1.heap.size ≠ w.heap.size:=by omega
 have HN1:=hide nm
 have HK1:=hide hk1
 have HK0:=hide hk0
 have HBe1:=hide hbe
 clear nm hk1 hk0 hbe he1 ht1 hW1 HNm HHd HK HBe HT HB1 HE1
 go_region_held3 (fun w' => w'.cell? ⟨w1.heap.size,0,none⟩ = some (.int .u64 x0) ∧ w'.cell? ⟨w1.heap.size,1,none⟩ = some (.int .u64 x1) ∧ w'.cell? ⟨w1.heap.size,2,none⟩ = some (.int .u32 x2) ∧ w'.cell? ⟨w1.heap.size,3,none⟩ = some (.int .u64 x3) ∧ w'.cell? ⟨w1.heap.size,4,none⟩ = some (.int .u64 x4))
  (first | with_reducible exact ⟨r0,r1,r2,r3,r4⟩ | with_reducible exact ⟨v0,v1_,v2,v3,v4⟩ | with_reducible exact ⟨s0,s1,s2,s3,s4⟩)
  (first
  | (go_at_call 42;refine (Calls.mono HN1.out ?_);rintro e w2 ⟨rfl,hb2⟩;have HB2:=hide hb2;have hk2:=(show Bk W1.drew w.heap.size 25 #[.int .u64 0,.int .u64 0,.int .u32 0,.int .u64 0,.int .u64 0] from HK0.out).keep hb2;obtain ⟨⟨d0,d1,d2,d3,d4⟩,⟨g0,g1,g2,g3,g4⟩⟩:=five_cells hk2;have hk12:=(show Bk W1.drew w1.heap.size 25 #[.int .u64 x0,.int .u64 x1,.int .u32 x2,.int .u64 x3,.int .u64 x4] from HK1.out).keep hb2;have hvc:=(five_cells hk12).1;obtain ⟨v0,v1_,v2,v3,v4⟩:=hvc;have hfar:=set5_far hk12 hne2 (.int .u64 x0) (.int .u64 x1) (.int .u32 x2) (.int .u64 x3) (.int .u64 x4);have hfc:=(five_cells hfar).1;unfold set5 at hfc;obtain ⟨s0,s1,s2,s3,s4⟩:=hfc;have HK2:=hide hk2;have HBe2:=hide (HBe1.out.drew.trans (hb2.mono (by show w.heap.size ≤ W1.heap.size;omega)));clear hb2 hk2 hk12 hfar))
 go_wp2_with fail
 have m1:=set5_bk HK2.out (.int .u64 x0) (.int .u64 x1) (.int .u32 x2) (.int .u64 x3) (.int .u64 x4)
 obtain ⟨⟨t0,t1,t2,t3,t4⟩,_⟩:=five_cells m1
 unfold set5 at t0 t1 t2 t3 t4
 refine bodyPost_ret (v:=.tuple #[.agg #[.int .u64 x0,.int .u64 x1,.int .u32 x2,.int .u64 x3,.int .u64 x4],.int .i64 Z]) (by simp [results,Tryz.results17,go_sem,t0,t1,t2,t3,t4]) rfl ?_
 exact ⟨rfl,set5_below HBe2.out (Nat.le_refl _) (.int .u64 x0) (.int .u64 x1) (.int .u32 x2) (.int .u64 x3) (.int .u64 x4)⟩
def partsH (s:List Nat):Hd:=if partsW s = 0 then fieldsL s else zeroH
def partsV (s:List Nat):Value:=if partsW s = 0 then bstr (boxB s) ((fieldsL s).bits:Nat) else bstr ⟨#[]⟩ 0
def PartsP (s:List Nat) (w:World) (e:Ending) (w':World):Prop:=(∃ v,e = .returned (.tuple #[headV (partsH s),partsV s,v]) ∧ ErrV (partsW s) w.heap.size v w') ∧ Below w.heap.size w w'
theorem PartsP.bad {s:List Nat} {w w':World} {v:Value} {z:Int} (h:partsW s = z) (hz:z ≠ 0) (hv:ErrV z w.heap.size v w') (hb:Below w.heap.size w w'):PartsP s w (.returned (.tuple #[headV zeroH,bstr ⟨#[]⟩ 0,v])) w':=by
 subst h
 exact ⟨⟨v,by unfold partsH partsV;rw [if_neg hz,if_neg hz],hv⟩,hb⟩
theorem ErrV.some_ {z:Int} {B:Nat} {v:Value} {w:World} (h:ErrV z B v w) (hz:z ≠ 0):∃ f s,v = .iface 168 (.pointer (some ⟨f,0,none⟩)) ∧ B ≤ f ∧ Bk w f 170 #[.string s,.iface 29 (.int .i64 z)]:=by
 rcases h with ⟨h,_⟩ | ⟨_,f,s,h1,h2,h3⟩
 · exact absurd h hz
 · exact ⟨f,s,h2,h1,h3⟩
theorem ErrV.none_ {z:Int} {B:Nat} {v:Value} {w:World} (h:ErrV z B v w) (hz:z = 0):v = .nilIface:=by
 rcases h with ⟨_,h⟩ | ⟨h,_⟩
 · exact h
 · exact absurd hz h
theorem ErrV.mk {z:Int} {B f:Nat} {s:ByteArray} {w:World} (hz:z ≠ 0) (hB:B ≤ f) (h:Bk w f 170 #[.string s,.iface 29 (.int .i64 z)]):ErrV z B (.iface 168 (.pointer (some ⟨f,0,none⟩))) w:=.inr ⟨hz,f,s,hB,rfl,h⟩
def set2 (w:World) (g:Nat) (a b:Value):World:=(w.setCell ⟨g,0,none⟩ a).setCell ⟨g,1,none⟩ b
theorem set2_bk {w:World} {g:Nat} {t:TypeId} {x0 x1:Value} (h:Bk w g t #[x0,x1]) (a b:Value):Bk (set2 w g a b) g t #[a,b]:=(h.set_ 0 a).set_ 1 b
theorem set2_far {w:World} {g g':Nat} {t:TypeId} {cs:Array Value} (h:Bk w g' t cs) (hne:g' ≠ g) (a b:Value):Bk (set2 w g a b) g' t cs:=(h.far (p:=⟨g,0,none⟩) hne a).far (p:=⟨g,1,none⟩) hne b
theorem set2_below {w0 w:World} {B g:Nat} (h:Below B w0 w) (hB:B ≤ g) (a b:Value):Below B w0 (set2 w g a b):=(h.setCell (p:=⟨g,0,none⟩) hB a).setCell (p:=⟨g,1,none⟩) hB b
theorem set2_err {w:World} {g B:Nat} {z:Int} {v:Value} (h:ErrV z B v w) (hB:g < B) (a b:Value):ErrV z B v (set2 w g a b):=by
 rcases h with h | ⟨h,f,s,h1,h2,h3⟩
 · exact .inl h
 · exact .inr ⟨h,f,s,h1,h2,set2_far h3 (by omega) a b⟩
def set7 (w:World) (g:Nat) (a b c d e x y:Value):World:=set2 (set5 w g a b c d e) (g + 1) x y
theorem set7_bk {w:World} {g:Nat} {t u:TypeId} {x0 x1 x2 x3 x4 y0 y1:Value} (h:Bk w g t #[x0,x1,x2,x3,x4]) (k:Bk w (g + 1) u #[y0,y1]) (a b c d e x y:Value):Bk (set7 w g a b c d e x y) g t #[a,b,c,d,e] ∧ Bk (set7 w g a b c d e x y) (g + 1) u #[x,y] :=
 ⟨set2_far (set5_bk h a b c d e) (by omega) x y,set2_bk (set5_far k (by omega) a b c d e) x y⟩
theorem set7_below {w0 w:World} {B g:Nat} (h:Below B w0 w) (hB:B ≤ g) (a b c d e x y:Value):Below B w0 (set7 w g a b c d e x y):=set2_below (set5_below h hB a b c d e) (by omega) x y
theorem set7_err {w:World} {g B:Nat} {z:Int} {v:Value} (h:ErrV z B v w) (hB:g + 1 < B) (a b c d e x y:Value):ErrV z B v (set7 w g a b c d e x y):=set2_err (set5_err h (by omega) a b c d e) hB x y
theorem seven_cells {w:World} {g:Nat} {t u:TypeId} {a b c d e x y:Value} (h:Bk w g t #[a,b,c,d,e] ∧ Bk w (g + 1) u #[x,y]):(w.cell? ⟨g,0,none⟩ = some a ∧ w.cell? ⟨g,1,none⟩ = some b ∧ w.cell? ⟨g,2,none⟩ = some c ∧ w.cell? ⟨g,3,none⟩ = some d ∧ w.cell? ⟨g,4,none⟩ = some e) ∧ (w.cell? ⟨g + 1,0,none⟩ = some x ∧ w.cell? ⟨g + 1,1,none⟩ = some y):=⟨(five_cells h.1).1,two_cells h.2⟩
theorem head_bad {z:Int} (s:ByteArray) (w:World) (h64:s.size ≤ 1000000) (h:headW (strL s) = z) (hz:z ≠ 0):Calls Tryz.prog 43 #[.string s] w fun e w' => ∃ f t,e = .returned (.tuple #[headV zeroH,.iface 168 (.pointer (some ⟨f,0,none⟩))]) ∧ w.heap.size ≤ f ∧ Bk w' f 170 #[.string t,.iface 29 (.int .i64 z)] ∧ Below w.heap.size w w':=by
 refine Calls.mono (head_any s w h64) ?_
 subst h
 rintro e w' ⟨⟨v,rfl,he⟩,hb⟩
 obtain ⟨f,t,rfl,h1,h2⟩:=he.some_ hz
 exact ⟨f,t,by unfold headH;rw [if_neg hz],h1,h2,hb⟩
theorem head_good (s:ByteArray) (w:World) (h64:s.size ≤ 1000000) (h:headW (strL s) = 0):Calls Tryz.prog 43 #[.string s] w fun e w' => e = .returned (.tuple #[headV (fieldsL (strL s)),.nilIface]) ∧ Below w.heap.size w w':=by
 refine Calls.mono (head_any s w h64) ?_
 rintro e w' ⟨⟨v,rfl,he⟩,hb⟩
 obtain rfl:=he.none_ h
 exact ⟨by unfold headH;rw [if_pos h],hb⟩
theorem wrong_bad {z:Int} (s:ByteArray) (w:World) (hz:z ≠ 0):Calls Tryz.prog 74 #[.string s,.int .i64 z] w fun e w' => ∃ f t,e = .returned (.iface 168 (.pointer (some ⟨f,0,none⟩))) ∧ w.heap.size ≤ f ∧ Bk w' f 170 #[.string t,.iface 29 (.int .i64 z)] ∧ Below w.heap.size w w':=by
 refine Calls.mono (wrong_any s z w) ?_
 rintro e w' ⟨⟨v,rfl,he⟩,hb⟩
 obtain ⟨f,t,rfl,h1,h2⟩:=he.some_ hz
 exact ⟨f,t,rfl,h1,h2,hb⟩
theorem wrong_good (s:ByteArray) (w:World):Calls Tryz.prog 74 #[.string s,.int .i64 0] w fun e w' => e = .returned .nilIface ∧ Below w.heap.size w w':=by
 refine Calls.mono (wrong_any s 0 w) ?_
 rintro e w' ⟨⟨v,rfl,he⟩,hb⟩
 obtain rfl:=he.none_ rfl
 exact ⟨rfl,hb⟩
theorem fields_range {s:List Nat} (hs:∀ x ∈ s,x < 256):(fieldsL s).bits < 1099511627776 ∧ (fieldsL s).segs < 1099511627776 ∧ (fieldsL s).cnt < 1099511627776 ∧ (fieldsL s).prim < 1099511627776:=by
 have key:∀ l:List Nat,(∀ x ∈ l,x < 256) → ofB (l.take 5) < 1099511627776:=by
  intro l hl
  have h1:∀ x ∈ l.take 5,x < 256:=fun x hx => hl x (List.mem_of_mem_take hx)
  have h2:(l.take 5).length ≤ 5:=by rw [List.length_take];omega
  match l.take 5,h1,h2 with
  | [],_,_ => simp [ofB]
  | [a],h,_ => have:=h a (by simp);simp [ofB];omega
  | [a,b],h,_ => have:=h a (by simp);have:=h b (by simp);simp [ofB];omega
  | [a,b,c],h,_ => have:=h a (by simp);have:=h b (by simp);have:=h c (by simp);simp [ofB];omega
  | [a,b,c,d],h,_ => have:=h a (by simp);have:=h b (by simp);have:=h c (by simp);have:=h d (by simp);simp [ofB];omega
  | [a,b,c,d,e],h,_ => have:=h a (by simp);have:=h b (by simp);have:=h c (by simp);have:=h d (by simp);have:=h e (by simp);simp [ofB];omega
  | _ :: _ :: _ :: _ :: _ :: _ :: _,_,h => simp at h
 have d:∀ n,∀ x ∈ s.drop n,x < 256:=fun n x hx => hs x (List.mem_of_mem_drop hx)
 exact ⟨key _ (d 23),key _ (d 18),key _ (d 4),key _ (d 9)⟩
set_option maxHeartbeats 4000000 in
theorem parts_any (s:ByteArray) (w:World) (h64:s.size ≤ 1000000):Calls Tryz.prog 45 #[.string s] w (PartsP (strL s) w):=by
 have hk1:Bk ((w.alloc (.cells #[.int .u64 0,.int .u64 0,.int .u32 0,.int .u64 0,.int .u64 0] 25)).alloc (.cells #[.string ⟨#[]⟩,.int .i64 0] 27)) w.heap.size 25 #[.int .u64 0,.int .u64 0,.int .u32 0,.int .u64 0,.int .u64 0]:=(Bk.new w _ _).alloc _
 have hk2:Bk ((w.alloc (.cells #[.int .u64 0,.int .u64 0,.int .u32 0,.int .u64 0,.int .u64 0] 25)).alloc (.cells #[.string ⟨#[]⟩,.int .i64 0] 27)) (w.heap.size + 1) 27 #[.string ⟨#[]⟩,.int .i64 0]:=Bk.new1 w _ _ _
 have hbe:Below w.heap.size w ((w.alloc (.cells #[.int .u64 0,.int .u64 0,.int .u32 0,.int .u64 0,.int .u64 0] 25)).alloc (.cells #[.string ⟨#[]⟩,.int .i64 0] 27)):=((Below.refl _ w).alloc (Nat.le_refl _) _).alloc (by simp) _
 have HK1:=hide hk1
 have HK2:=hide hk2
 have HBe:=hide hbe
 clear hk1 hk2 hbe
 by_cases h0:headW (strL s) = 0
 · have hd:=fun (W:World) => head_good s W h64 h0
   obtain ⟨q1,q2,q3,q4⟩:=headW_zero h0
   rw [strL_length] at q1 q2
   obtain ⟨r1,r2,r3,r4⟩:=fields_range (strL_lt s)
   have hpw:partsW (strL s) = if 1048576 < (fieldsL (strL s)).bits then 2 else if rightB (boxB (strL s)) (fieldsL (strL s)).bits = true then 0 else 2:=by unfold partsW;rw [if_neg (by rw [h0];simp)]
   obtain ⟨P,hP⟩:∃ P,P = boxB (strL s):=⟨_,rfl⟩
   obtain ⟨n,hn⟩:∃ n,s.size = n + 4:=⟨s.size - 4,by omega⟩
   have hPx:s.extract 28 n = P:=strL_inj (by
    rw [hP,strL_sub];unfold boxB
    rw [strL_of (fun x hx => strL_lt s x (List.mem_of_mem_drop (List.mem_of_mem_take hx))),strL_length,List.drop_take]
    congr 1;omega)
   rw [← hP] at hpw
   obtain ⟨H,hH⟩:∃ H,H = fieldsL (strL s):=⟨_,rfl⟩
   rw [← hH] at hd r1 r2 r3 r4 hpw
   have HH:=hide hH
   have HP:=hide hP
   obtain ⟨x0,x1,x2,x3,x4⟩:=H
   have hPs:P.size ≤ 1000000:=by rw [← hPx,ByteArray.size_extract];omega
   have hx4:x4 < 1099511627776:=r1
   have hpw2:partsW (strL s) = if 1048576 < x4 then 2 else if rightB P x4 = true then 0 else 2:=hpw
   have hnI:(s.size:Int) - 4 = (n:Int):=by omega
   have n28:(28:Int) ≤ (n:Int):=by omega
   have n28':28 ≤ n:=by omega
   have hnle:(n:Int) ≤ (s.size:Int):=by omega
   have hnle2:n ≤ s.size:=by omega
   unfold headV at hd
   have HHd:=hide hd
   clear hd h0 q1 q2 q3 q4 r1 r2 r3 r4 hpw hP hH hn
   by_cases g1:1048576 < x4
   · rw [if_pos g1] at hpw2
     have HZ:=hide hpw2
     have wb:=fun (t:ByteArray) (W:World) => wrong_bad (z:=2) t W (by decide)
     have HWb:=hide wb
     have g1':(1048576:Int) < (x4:Int):=by omega
     clear hpw2 wb hPx hPs
     go_enter Tryz.func45,Tryz.ntmps45
     go_wp2_with (first
      | (go_at_call 43;refine (Calls.mono (HHd.out _) ?_);rintro e w1 ⟨rfl,hb1⟩;have k1:=HK1.out.keep hb1;have k2:=HK2.out.keep hb1;have k1l:=k1.lt;have k2l:=k2.lt;have hb:=hb1.size;simp only [World.size_alloc] at hb;obtain ⟨⟨c0,c1,c2,c3,c4⟩,⟨f0,f1,f2,f3,f4⟩⟩:=five_cells k1;obtain ⟨d0,d1⟩:=two_cells k2;have e0:=k2.free 0;have e1:=k2.free 1;have K1:=hide k1;have K2:=hide k2;have HB1:=hide hb1;clear k1 k2 hb1)
      | (go_at_call 74;refine (Calls.mono (HWb.out _ _) ?_);rintro e w2 ⟨f,t,rfl,hf,hkf,hb2⟩;have k1:=(K1.out.alloc (.cells #[.int .u64 x0,.int .u64 x1,.int .u32 x2,.int .u64 x3,.int .u64 x4] 25)).keep hb2;have k2:=(K2.out.alloc (.cells #[.int .u64 x0,.int .u64 x1,.int .u32 x2,.int .u64 x3,.int .u64 x4] 25)).keep hb2;obtain ⟨⟨c0,c1,c2,c3,c4⟩,⟨f0,f1,f2,f3,f4⟩⟩:=five_cells k1;obtain ⟨d0,d1⟩:=two_cells k2;have e0:=k2.free 0;have e1:=k2.free 1;have KK1:=hide k1;have KK2:=hide k2;have HE2:=hide (ErrV.mk (z:=2) (by decide) hf hkf);have HB2:=hide hb2;simp only [World.size_alloc] at hf;clear hkf hb2 k1 k2))
     have b7:=set7_bk KK1.out KK2.out (.int .u64 0) (.int .u64 0) (.int .u32 0) (.int .u64 0) (.int .u64 0) (.string ⟨#[]⟩) (.int .i64 0)
     obtain ⟨⟨t0,t1,t2,t3,t4⟩,⟨t5,t6⟩⟩:=seven_cells b7
     unfold set7 set5 set2 at t0 t1 t2 t3 t4 t5 t6
     refine bodyPost_ret (v:=.tuple #[headV zeroH,bstr ⟨#[]⟩ 0,.iface 168 (.pointer (some ⟨f,0,none⟩))]) (by simp [results,Tryz.results45,go_sem,t0,t1,t2,t3,t4,t5,t6,headV,zeroH,bstr]) rfl ?_
     exact PartsP.bad HZ.out (by decide) ((set7_err HE2.out (by simp only [World.size_alloc];omega) (.int .u64 0) (.int .u64 0) (.int .u32 0) (.int .u64 0) (.int .u64 0) (.string ⟨#[]⟩) (.int .i64 0)).mono (by simp only [World.size_alloc];omega)) (set7_below (((HBe.out.trans (HB1.out.mono (by simp;omega))).alloc (by omega) (.cells #[.int .u64 x0,.int .u64 x1,.int .u32 x2,.int .u64 x3,.int .u64 x4] 25)).trans (HB2.out.mono (by simp;omega))) (Nat.le_refl _) (.int .u64 0) (.int .u64 0) (.int .u32 0) (.int .u64 0) (.int .u64 0) (.string ⟨#[]⟩) (.int .i64 0))
   · rw [if_neg g1] at hpw2
     have g1':¬ (1048576:Int) < (x4:Int):=by omega
     have ck:=fun (W:World) => check_any P x4 W ⟨by omega,by omega⟩ (by omega)
     by_cases g2:rightB P x4 = true
     · rw [if_pos g2] at hpw2
       have HZ:=hide hpw2
       have hck:chkB P x4 = 0:=by unfold chkB;rw [if_pos g2]
       rw [hck] at ck
       have HCk:=hide ck
       have wg:=fun (t:ByteArray) (W:World) => wrong_good t W
       have HWg:=hide wg
       clear hpw2 ck wg hck g2
       go_enter Tryz.func45,Tryz.ntmps45
       go_wp2_with (go_at_call 43;refine (Calls.mono (HHd.out _) ?_);rintro e w1 ⟨rfl,hb1⟩;have HB1:=hide hb1;clear hb1)
       have k1:=(HK1.out.keep HB1.out).alloc (.cells #[.int .u64 x0,.int .u64 x1,.int .u32 x2,.int .u64 x3,.int .u64 x4] 25)
       have k2:=(HK2.out.keep HB1.out).alloc (.cells #[.int .u64 x0,.int .u64 x1,.int .u32 x2,.int .u64 x3,.int .u64 x4] 25)
       have k3:Bk (w1.alloc (.cells #[.int .u64 x0,.int .u64 x1,.int .u32 x2,.int .u64 x3,.int .u64 x4] 25)) w1.heap.size 25 #[.int .u64 x0,.int .u64 x1,.int .u32 x2,.int .u64 x3,.int .u64 x4]:=Bk.new w1 _ _
       have hz1:=HB1.out.size
       simp only [World.size_alloc] at hz1
       have hbe:Below w.heap.size w (w1.alloc (.cells #[.int .u64 x0,.int .u64 x1,.int .u32 x2,.int .u64 x3,.int .u64 x4] 25)):=(HBe.out.trans (HB1.out.mono (by simp;omega))).alloc (by omega) _
       have hs1:(w1.alloc (.cells #[.int .u64 x0,.int .u64 x1,.int .u32 x2,.int .u64 x3,.int .u64 x4] 25)).heap.size = w1.heap.size + 1:=World.size_alloc _ _
       obtain ⟨W1,hW1⟩:∃ W,W = w1.alloc (.cells #[.int .u64 x0,.int .u64 x1,.int .u32 x2,.int .u64 x3,.int .u64 x4] 25):=⟨_,rfl⟩
       rw [← hW1] at k1 k2 k3 hbe hs1 ⊢
       obtain ⟨⟨p0,p1,p2,p3,p4⟩,_⟩:=five_cells k3
       have K1:=hide k1
       have K2:=hide k2
       have K3:=hide k3
       have HBe1:=hide hbe
       have HS1:=hide hs1
       have hwn:IntKind.i64.wrap (n:Int) = n:=by rw [IntKind.wrap_i64];omega
       have hlt1:w1.heap.size < W1.heap.size:=by omega
       have hne1:w1.heap.size ≠ W1.heap.size:=by omega
       clear k1 k2 k3 hbe hW1 hs1 HB1 HK1 HK2 HBe HHd
       go_region
       have k1:=(K1.out.alloc (.cells #[.string P,.int .i64 x4] 27)).drew
       have k2:=(K2.out.alloc (.cells #[.string P,.int .i64 x4] 27)).drew
       have k3:=(K3.out.alloc (.cells #[.string P,.int .i64 x4] 27)).drew
       have k4:Bk (W1.alloc (.cells #[.string P,.int .i64 x4] 27)).drew W1.heap.size 27 #[.string P,.int .i64 x4]:=(Bk.new W1 _ _).drew
       have hbe2:Below w.heap.size w (W1.alloc (.cells #[.string P,.int .i64 x4] 27)).drew:=(HBe1.out.alloc (by omega) _).drew
       obtain ⟨g7,hg7⟩:∃ g,g = W1.heap.size:=⟨_,rfl⟩
       rw [← hg7] at k4 hlt1 ⊢
       obtain ⟨W2,hW2⟩:∃ W,W = (W1.alloc (.cells #[.string P,.int .i64 x4] 27)).drew:=⟨_,rfl⟩
       rw [← hW2] at k1 k2 k3 k4 hbe2 ⊢
       obtain ⟨r0,r1⟩:=two_cells k4
       have k1l:=k1.lt
       have k2l:=k2.lt
       have KK1:=hide k1
       have KK2:=hide k2
       have KK3:=hide k3
       have KK4:=hide k4
       have HBe2:=hide hbe2
       clear k1 k2 k3 k4 hbe2 hW2 p0 p1 p2 p3 p4 hg7 hne1
       go_wp2_with (first
        | (go_at_call 34;refine (Calls.mono (HCk.out _) ?_);rintro e w3 ⟨rfl,hb3⟩;have HB3:=hide hb3;have hz3:=hb3.size;clear hb3)
        | (go_at_call 74;refine (Calls.mono (HWg.out _ _) ?_);rintro e w4 ⟨rfl,hb4⟩;have k1:=(KK1.out.keep HB3.out).keep hb4;have k2:=(KK2.out.keep HB3.out).keep hb4;have k3:=(KK3.out.keep HB3.out).keep hb4;have k4:=(KK4.out.keep HB3.out).keep hb4;obtain ⟨⟨c0,c1,c2,c3,c4⟩,⟨f0,f1,f2,f3,f4⟩⟩:=five_cells k1;obtain ⟨d0,d1⟩:=two_cells k2;have e0:=k2.free 0;have e1:=k2.free 1;obtain ⟨⟨p0,p1,p2,p3,p4⟩,_⟩:=five_cells k3;obtain ⟨u0,u1⟩:=two_cells k4;have M1:=hide k1;have M2:=hide k2;have HB4:=hide hb4;have hz4:=hb4.size;clear k1 k2 k3 k4 hb4))
       have hn1:w.heap.size ≠ w1.heap.size:=by omega
       have hn2:w.heap.size + 1 ≠ w1.heap.size:=by omega
       have hn3:w.heap.size ≠ g7:=by omega
       have hn4:w.heap.size + 1 ≠ g7:=by omega
       go_region
       go_wp2_with fail
       have b7:=set7_bk M1.out M2.out (.int .u64 x0) (.int .u64 x1) (.int .u32 x2) (.int .u64 x3) (.int .u64 x4) (.string P) (.int .i64 x4)
       obtain ⟨⟨t0,t1,t2,t3,t4⟩,⟨t5,t6⟩⟩:=seven_cells b7
       have hbf:=set7_below ((HBe2.out.trans (HB3.out.mono (by omega))).trans (HB4.out.mono (by omega))) (Nat.le_refl _) (.int .u64 x0) (.int .u64 x1) (.int .u32 x2) (.int .u64 x3) (.int .u64 x4) (.string P) (.int .i64 x4)
       unfold set7 set5 set2 at t0 t1 t2 t3 t4 t5 t6 hbf
       refine bodyPost_ret (v:=.tuple #[headV ⟨x0,x1,x2,x3,x4⟩,bstr P x4,.nilIface]) (by simp [results,Tryz.results45,go_sem,t0,t1,t2,t3,t4,t5,t6,headV,bstr]) rfl ?_
       refine ⟨⟨.nilIface, ?_,.inl ⟨HZ.out,rfl⟩⟩,hbf.drew⟩
       unfold partsH partsV
       rw [if_pos HZ.out,if_pos HZ.out,← HH.out,← HP.out]
     · rw [if_neg g2] at hpw2
       have HZ:=hide hpw2
       have hck:chkB P x4 = 2:=by unfold chkB;rw [if_neg g2]
       rw [hck] at ck
       have HCk:=hide ck
       have wb:=fun (t:ByteArray) (W:World) => wrong_bad (z:=2) t W (by decide)
       have HWb:=hide wb
       clear hpw2 ck wb hck g2
       go_enter Tryz.func45,Tryz.ntmps45
       go_wp2_with (go_at_call 43;refine (Calls.mono (HHd.out _) ?_);rintro e w1 ⟨rfl,hb1⟩;have HB1:=hide hb1;clear hb1)
       have k1:=(HK1.out.keep HB1.out).alloc (.cells #[.int .u64 x0,.int .u64 x1,.int .u32 x2,.int .u64 x3,.int .u64 x4] 25)
       have k2:=(HK2.out.keep HB1.out).alloc (.cells #[.int .u64 x0,.int .u64 x1,.int .u32 x2,.int .u64 x3,.int .u64 x4] 25)
       have k3:Bk (w1.alloc (.cells #[.int .u64 x0,.int .u64 x1,.int .u32 x2,.int .u64 x3,.int .u64 x4] 25)) w1.heap.size 25 #[.int .u64 x0,.int .u64 x1,.int .u32 x2,.int .u64 x3,.int .u64 x4]:=Bk.new w1 _ _
       have hz1:=HB1.out.size
       simp only [World.size_alloc] at hz1
       have hbe:Below w.heap.size w (w1.alloc (.cells #[.int .u64 x0,.int .u64 x1,.int .u32 x2,.int .u64 x3,.int .u64 x4] 25)):=(HBe.out.trans (HB1.out.mono (by simp;omega))).alloc (by omega) _
       have hs1:(w1.alloc (.cells #[.int .u64 x0,.int .u64 x1,.int .u32 x2,.int .u64 x3,.int .u64 x4] 25)).heap.size = w1.heap.size + 1:=World.size_alloc _ _
       obtain ⟨W1,hW1⟩:∃ W,W = w1.alloc (.cells #[.int .u64 x0,.int .u64 x1,.int .u32 x2,.int .u64 x3,.int .u64 x4] 25):=⟨_,rfl⟩
       rw [← hW1] at k1 k2 k3 hbe hs1 ⊢
       obtain ⟨⟨p0,p1,p2,p3,p4⟩,_⟩:=five_cells k3
       have K1:=hide k1
       have K2:=hide k2
       have K3:=hide k3
       have HBe1:=hide hbe
       have HS1:=hide hs1
       have hwn:IntKind.i64.wrap (n:Int) = n:=by rw [IntKind.wrap_i64];omega
       have hlt1:w1.heap.size < W1.heap.size:=by omega
       have hne1:w1.heap.size ≠ W1.heap.size:=by omega
       clear k1 k2 k3 hbe hW1 hs1 HB1 HK1 HK2 HBe HHd
       go_region
       have k1:=(K1.out.alloc (.cells #[.string P,.int .i64 x4] 27)).drew
       have k2:=(K2.out.alloc (.cells #[.string P,.int .i64 x4] 27)).drew
       have k3:=(K3.out.alloc (.cells #[.string P,.int .i64 x4] 27)).drew
       have k4:Bk (W1.alloc (.cells #[.string P,.int .i64 x4] 27)).drew W1.heap.size 27 #[.string P,.int .i64 x4]:=(Bk.new W1 _ _).drew
       have hbe2:Below w.heap.size w (W1.alloc (.cells #[.string P,.int .i64 x4] 27)).drew:=(HBe1.out.alloc (by omega) _).drew
       obtain ⟨g7,hg7⟩:∃ g,g = W1.heap.size:=⟨_,rfl⟩
       rw [← hg7] at k4 hlt1 ⊢
       obtain ⟨W2,hW2⟩:∃ W,W = (W1.alloc (.cells #[.string P,.int .i64 x4] 27)).drew:=⟨_,rfl⟩
       rw [← hW2] at k1 k2 k3 k4 hbe2 ⊢
       obtain ⟨r0,r1⟩:=two_cells k4
       have k1l:=k1.lt
       have k2l:=k2.lt
       have KK1:=hide k1
       have KK2:=hide k2
       have KK3:=hide k3
       have KK4:=hide k4
       have HBe2:=hide hbe2
       clear k1 k2 k3 k4 hbe2 hW2 p0 p1 p2 p3 p4 hg7 hne1
       go_wp2_with (first
        | (go_at_call 34;refine (Calls.mono (HCk.out _) ?_);rintro e w3 ⟨rfl,hb3⟩;have HB3:=hide hb3;have hz3:=hb3.size;clear hb3)
        | (go_at_call 74;refine (Calls.mono (HWb.out _ _) ?_);rintro e w4 ⟨f,t,rfl,hf,hkf,hb4⟩;have HE4:=hide (ErrV.mk (z:=2) (by decide) hf hkf);clear hkf;have k1:=(KK1.out.keep HB3.out).keep hb4;have k2:=(KK2.out.keep HB3.out).keep hb4;have k3:=(KK3.out.keep HB3.out).keep hb4;have k4:=(KK4.out.keep HB3.out).keep hb4;obtain ⟨⟨c0,c1,c2,c3,c4⟩,⟨f0,f1,f2,f3,f4⟩⟩:=five_cells k1;obtain ⟨d0,d1⟩:=two_cells k2;have e0:=k2.free 0;have e1:=k2.free 1;obtain ⟨⟨p0,p1,p2,p3,p4⟩,_⟩:=five_cells k3;obtain ⟨u0,u1⟩:=two_cells k4;have M1:=hide k1;have M2:=hide k2;have HB4:=hide hb4;have hz4:=hb4.size;clear k1 k2 k3 k4 hb4))
       have b7:=set7_bk M1.out M2.out (.int .u64 0) (.int .u64 0) (.int .u32 0) (.int .u64 0) (.int .u64 0) (.string ⟨#[]⟩) (.int .i64 0)
       obtain ⟨⟨t0,t1,t2,t3,t4⟩,⟨t5,t6⟩⟩:=seven_cells b7
       unfold set7 set5 set2 at t0 t1 t2 t3 t4 t5 t6
       refine bodyPost_ret (v:=.tuple #[headV zeroH,bstr ⟨#[]⟩ 0,.iface 168 (.pointer (some ⟨f,0,none⟩))]) (by simp [results,Tryz.results45,go_sem,t0,t1,t2,t3,t4,t5,t6,headV,zeroH,bstr]) rfl ?_
       exact PartsP.bad HZ.out (by decide) ((set7_err HE4.out (by omega) (.int .u64 0) (.int .u64 0) (.int .u32 0) (.int .u64 0) (.int .u64 0) (.string ⟨#[]⟩) (.int .i64 0)).mono (by omega)) (set7_below ((HBe2.out.trans (HB3.out.mono (by omega))).trans (HB4.out.mono (by omega))) (Nat.le_refl _) (.int .u64 0) (.int .u64 0) (.int .u32 0) (.int .u64 0) (.int .u64 0) (.string ⟨#[]⟩) (.int .i64 0))
 · have hz:partsW (strL s) = headW (strL s):=partsW_head h0
   obtain ⟨z,hz0⟩:∃ z,z = headW (strL s):=⟨_,rfl⟩
   rw [← hz0] at hz h0
   have hd:∀ (W:World),Calls Tryz.prog 43 #[.string s] W fun e w' => ∃ f t,e = .returned (.tuple #[.agg #[.int .u64 0,.int .u64 0,.int .u32 0,.int .u64 0,.int .u64 0],.iface 168 (.pointer (some ⟨f,0,none⟩))]) ∧ W.heap.size ≤ f ∧ Bk w' f 170 #[.string t,.iface 29 (.int .i64 z)] ∧ Below W.heap.size W w':=fun (W:World) => head_bad s W h64 hz0.symm h0
   have HHd:=hide hd
   have HZ:=hide hz
   have HZ0:=hide h0
   clear hd hz hz0 h0
   go_enter Tryz.func45,Tryz.ntmps45
   go_upto_region 3 with (go_at_call 43;refine (Calls.mono (HHd.out _) ?_);rintro e w1 ⟨f,t,rfl,hf,hkf,hb1⟩;have HB1:=hide hb1;have HKf:=hide hkf;have HF:=hide hf;clear hb1 hkf hf)
   have k1:=(HK1.out.keep HB1.out).alloc (.cells #[.int .u64 0,.int .u64 0,.int .u32 0,.int .u64 0,.int .u64 0] 25)
   have k2:=(HK2.out.keep HB1.out).alloc (.cells #[.int .u64 0,.int .u64 0,.int .u32 0,.int .u64 0,.int .u64 0] 25)
   have hz1:=HB1.out.size
   have hf:=HF.out
   simp only [World.size_alloc] at hz1 hf
   have hbe:Below w.heap.size w (w1.alloc (.cells #[.int .u64 0,.int .u64 0,.int .u32 0,.int .u64 0,.int .u64 0] 25)):=(HBe.out.trans (HB1.out.mono (by simp;omega))).alloc (by omega) _
   have he:ErrV z (w.heap.size + 1 + 1) (.iface 168 (.pointer (some ⟨f,0,none⟩))) (w1.alloc (.cells #[.int .u64 0,.int .u64 0,.int .u32 0,.int .u64 0,.int .u64 0] 25)):=(ErrV.mk HZ0.out hf HKf.out).alloc _
   obtain ⟨W1,hW1⟩:∃ W,W = w1.alloc (.cells #[.int .u64 0,.int .u64 0,.int .u32 0,.int .u64 0,.int .u64 0] 25):=⟨_,rfl⟩
   rw [← hW1] at k1 k2 hbe he ⊢
   obtain ⟨⟨c0,c1,c2,c3,c4⟩,⟨f0,f1,f2,f3,f4⟩⟩:=five_cells k1
   obtain ⟨d0,d1⟩:=two_cells k2
   have e0:=k2.free 0
   have e1:=k2.free 1
   have KK1:=hide k1
   have KK2:=hide k2
   have HE2:=hide he
   have HBe2:=hide hbe
   clear k1 k2 he hbe hW1 hf hz1 HB1 HKf HF HK1 HK2 HBe HHd
   go_wp2_with fail
   have b7:=set7_bk KK1.out KK2.out (.int .u64 0) (.int .u64 0) (.int .u32 0) (.int .u64 0) (.int .u64 0) (.string ⟨#[]⟩) (.int .i64 0)
   obtain ⟨⟨t0,t1,t2,t3,t4⟩,⟨t5,t6⟩⟩:=seven_cells b7
   unfold set7 set5 set2 at t0 t1 t2 t3 t4 t5 t6
   refine bodyPost_ret (v:=.tuple #[headV zeroH,bstr ⟨#[]⟩ 0,.iface 168 (.pointer (some ⟨f,0,none⟩))]) (by simp [results,Tryz.results45,go_sem,t0,t1,t2,t3,t4,t5,t6,headV,zeroH,bstr]) rfl ?_
   exact PartsP.bad HZ.out HZ0.out ((set7_err HE2.out (by omega) (.int .u64 0) (.int .u64 0) (.int .u32 0) (.int .u64 0) (.int .u64 0) (.string ⟨#[]⟩) (.int .i64 0)).mono (by omega)) (set7_below HBe2.out (Nat.le_refl _) (.int .u64 0) (.int .u64 0) (.int .u32 0) (.int .u64 0) (.int .u64 0) (.string ⟨#[]⟩) (.int .i64 0))
theorem sback_over (s:ByteArray) (N k:Nat) (w:World) (hB:rightB s N = true) (hk:65536 < k) (hk2:k < 4611686018427387904) :
 Calls Tryz.prog 21 #[bstr s N,.int .i64 k] w fun e w' => e = .returned (.tuple #[.string ⟨#[]⟩,.int .i64 1]) ∧ Below w.heap.size w w':=by
 have hRB:=rightB_n hB
 have ck:=fun W => check_any s N W ⟨by omega,by omega⟩ (by omega)
 have hz:chkB s N = 0:=by unfold chkB;rw [if_pos hB]
 rw [hz] at ck
 have d0:(65536:Int) < (k:Int):=by omega
 have hk0:¬ (k:Int) < 0:=by omega
 have HCk:=hide ck
 clear ck hz hRB hB
 go_enter Tryz.func21,Tryz.ntmps21
 go_wp2_with (go_at_call 34;refine (Calls.mono (HCk.out _) ?_);rintro e w0 ⟨rfl,hb0⟩;have HB0:=hide hb0;clear hb0)
 go_ret2
 exact ⟨rfl,((Below.refl _ w).alloc (Nat.le_refl _) _).trans (HB0.out.mono (by simp))⟩
theorem text_over (s:ByteArray) (p:Nat) (w:World) (hs:4096 < s.size) (hs2:s.size ≤ 1000000) :
 Calls Tryz.prog 75 #[.string s,.int .i64 p] w fun e w' => e = .returned (.tuple #[.string ⟨#[]⟩,.int .i64 1]) ∧ Below w.heap.size w w':=by
 have d0:(4096:Int) < (s.size:Int):=by omega
 go_enter Tryz.func75,Tryz.ntmps75
 go_wp2_with fail
 go_ret2
 exact ⟨rfl,Below.refl _ _⟩
theorem textW_len {c:List Nat} {p:Nat}:∀ {k row:Nat} {acc t:List Nat},textW c p k row acc = some t → t.length = k + acc.length:=by
 intro k
 induction k with
 | zero =>
   intro row acc t h
   rw [textW] at h
   split at h
   · cases h;simp
   · cases h
 | succ k ih =>
   intro row acc t h
   rw [textW] at h
   split at h
   · cases h
   · have:=ih h
     rw [this,List.length_cons];omega
theorem textB_len {c t:List Nat} {p:Nat} (h:textB c p = some t):t.length = c.length:=by
 unfold textB at h
 split at h
 · rename_i g;cases h;rw [g.1]
 · split at h
   · cases h
   · have:=textW_len h;simpa using this
theorem backR_ok {s:ByteArray} {N:Nat}:∀ (k:Nat) {row out T:List Nat} {a:Nat},RowOK row → a ≤ N → (∀ c ∈ out,c < 256) → out.length ≤ 65536 → backR s N k row a out = (0,T) → (∀ c ∈ T,c < 256) ∧ T.length ≤ 65536:=by
 intro k
 induction k with
 | zero =>
   intro row out T a _ _ ho hl h
   rw [backR] at h
   split at h
   · cases h;exact ⟨ho,hl⟩
   · cases h
 | succ k ih =>
   intro row out T a hr ha ho hl h
   obtain ⟨w,t,a',hs⟩:=trip (segR s N a)
   rw [backR_step hs] at h
   by_cases h0:w = 0
   · subst h0
     rw [if_pos rfl] at h
     by_cases h1:(0 < k ∧ t.length ≠ 512) ∨ 65536 < out.length + t.length
     · rw [if_pos h1] at h;cases h
     · rw [if_neg h1] at h
       obtain ⟨r1,r2,r3,r4,r5,r6⟩:=seg_read ha hs
       obtain ⟨q1,q2,q3⟩:=fromL_rows hr r3
       refine ih q1 r6 (fun c hc => ?_) (by rw [List.length_append,q3];omega) h
       rcases List.mem_append.1 hc with hc | hc
       · exact ho c hc
       · exact q2 c hc
   · rw [if_neg h0] at h
     simp only [Prod.mk.injEq] at h
     exact absurd h.1 h0
theorem parts_bad {z:Int} (s:ByteArray) (w:World) (h64:s.size ≤ 1000000) (h:partsW (strL s) = z) (hz:z ≠ 0):Calls Tryz.prog 45 #[.string s] w fun e w' => ∃ f t,e = .returned (.tuple #[.agg #[.int .u64 0,.int .u64 0,.int .u32 0,.int .u64 0,.int .u64 0],bstr ⟨#[]⟩ 0,.iface 168 (.pointer (some ⟨f,0,none⟩))]) ∧ w.heap.size ≤ f ∧ Bk w' f 170 #[.string t,.iface 29 (.int .i64 z)] ∧ Below w.heap.size w w':=by
 refine Calls.mono (parts_any s w h64) ?_
 subst h
 rintro e w' ⟨⟨v,rfl,he⟩,hb⟩
 obtain ⟨f,t,rfl,h1,h2⟩:=he.some_ hz
 exact ⟨f,t,by unfold partsH partsV;rw [if_neg hz,if_neg hz];rfl,h1,h2,hb⟩
theorem parts_good (s:ByteArray) (w:World) (h64:s.size ≤ 1000000) (h:partsW (strL s) = 0):Calls Tryz.prog 45 #[.string s] w fun e w' => e = .returned (.tuple #[headV (fieldsL (strL s)),bstr (boxB (strL s)) ((fieldsL (strL s)).bits:Nat),.nilIface]) ∧ Below w.heap.size w w':=by
 refine Calls.mono (parts_any s w h64) ?_
 rintro e w' ⟨⟨v,rfl,he⟩,hb⟩
 obtain rfl:=he.none_ h
 exact ⟨by unfold partsH partsV;rw [if_pos h,if_pos h],hb⟩
def BOpenP (R:Int × List Nat) (w:World) (e:Ending) (w':World):Prop:=(∃ v,e = .returned (.tuple #[.string (strOf R.2),v]) ∧ ErrV R.1 w.heap.size v w') ∧ Below w.heap.size w w'
theorem BOpenP.bad {R:Int × List Nat} {z:Int} {w w':World} {f:Nat} {s:ByteArray} (h:R = (z,[])) (hz:z ≠ 0) (hf:w.heap.size ≤ f) (hk:Bk w' f 170 #[.string s,.iface 29 (.int .i64 z)]) (hb:Below w.heap.size w w'):BOpenP R w (.returned (.tuple #[.string ⟨#[]⟩,.iface 168 (.pointer (some ⟨f,0,none⟩))])) w':=by
 subst h;exact ⟨⟨_,rfl,ErrV.mk hz hf hk⟩,hb⟩
theorem BOpenP.good {R:Int × List Nat} {t:List Nat} {w w':World} (h:R = (0,t)) (hb:Below w.heap.size w w'):BOpenP R w (.returned (.tuple #[.string (strOf t),.nilIface])) w':=by
 subst h;exact ⟨⟨_,rfl,.inl ⟨rfl,rfl⟩⟩,hb⟩
set_option maxHeartbeats 4000000 in
theorem bopen_any (s:ByteArray) (q0 q1:Addr) (w:World) (hS:Sent2 w q0 q1) (h64:s.size ≤ 1000000):Calls Tryz.prog 41 #[.string s] w (BOpenP (openR (strL s)) w):=by
 obtain ⟨R,hR⟩:∃ R,R = openR (strL s):=⟨_,rfl⟩
 rw [← hR]
 unfold openR at hR
 by_cases hp0:partsW (strL s) = 0
 · rw [if_neg (by simpa using hp0)] at hR
   have pg:=fun (W:World) => parts_good s W h64 hp0
   obtain ⟨_,p2,p3⟩:=partsW_zero.1 hp0
   obtain ⟨r1,r2,r3,r4⟩:=fields_range (strL_lt s)
   obtain ⟨P,hP⟩:∃ P,P = boxB (strL s):=⟨_,rfl⟩
   obtain ⟨H,hH⟩:∃ H,H = fieldsL (strL s):=⟨_,rfl⟩
   rw [← hP,← hH] at pg p3
   rw [← hP,← hH] at hR
   rw [← hH] at p2 r1 r2 r3 r4
   obtain ⟨x0,x1,x2,x3,x4⟩:=H
   have p2':x4 ≤ 1048576:=p2
   have r2':x3 < 1099511627776:=r2
   have r3':x0 < 1099511627776:=r3
   have r4':x1 < 1099511627776:=r4
   have p3':rightB P x4 = true:=p3
   unfold headV at pg
   have HPg:=hide pg
   clear pg hP hH p2 p3 r1 r2 r3 r4 hp0
   by_cases g1:65536 < x3
   · rw [if_pos g1] at hR
     have bk:=fun (W:World) (_:Below w.heap.size w W) => sback_over P x4 65537 W p3' (by decide) (by decide)
     have wb:=fun (t:ByteArray) (W:World) => wrong_bad (z:=1) t W (by decide)
     have hmin:min (x3:Int) 65537 = (65537:Nat):=by omega
     have HBk:=hide bk
     have HWb:=hide wb
     have HR:=hide hR
     clear bk wb hR p3'
     go_enter Tryz.func41,Tryz.ntmps41
     go_upto_region 4 with (go_at_call 45;refine (Calls.mono (HPg.out _) ?_);rintro e w1 ⟨rfl,hb1⟩;have HB1:=hide hb1;clear hb1)
     have hz1:=HB1.out.size
     have k3:Bk ((w1.alloc (.cells #[.int .u64 x0,.int .u64 x1,.int .u32 x2,.int .u64 x3,.int .u64 x4] 25)).alloc (.cells #[.string P,.int .i64 x4] 27)) w1.heap.size 25 #[.int .u64 x0,.int .u64 x1,.int .u32 x2,.int .u64 x3,.int .u64 x4]:=(Bk.new w1 _ _).alloc _
     have k4:Bk ((w1.alloc (.cells #[.int .u64 x0,.int .u64 x1,.int .u32 x2,.int .u64 x3,.int .u64 x4] 25)).alloc (.cells #[.string P,.int .i64 x4] 27)) (w1.heap.size + 1) 27 #[.string P,.int .i64 x4]:=Bk.new1 w1 _ _ _
     have hbe:Below w.heap.size w ((w1.alloc (.cells #[.int .u64 x0,.int .u64 x1,.int .u32 x2,.int .u64 x3,.int .u64 x4] 25)).alloc (.cells #[.string P,.int .i64 x4] 27)):=(HB1.out.alloc (by omega) _).alloc (by simp;omega) _
     obtain ⟨W1,hW1⟩:∃ W,W = (w1.alloc (.cells #[.int .u64 x0,.int .u64 x1,.int .u32 x2,.int .u64 x3,.int .u64 x4] 25)).alloc (.cells #[.string P,.int .i64 x4] 27):=⟨_,rfl⟩
     rw [← hW1] at k3 k4 hbe ⊢
     obtain ⟨⟨r0,r1,r2,r3,r4⟩,_⟩:=five_cells k3
     obtain ⟨r5,r6⟩:=two_cells k4
     have hlt1:=k4.lt
     have K3:=hide k3
     have HBe1:=hide hbe
     clear k3 k4 hbe hW1 HB1
     go_wp2_with (first
      | (go_at_call 21;refine (Calls.mono (HBk.out _ (HBe1.out)) ?_);rintro e w2 ⟨rfl,hb2⟩;have k3:=K3.out.keep hb2;obtain ⟨⟨a0,a1,a2,a3,a4⟩,_⟩:=five_cells k3;have K32:=hide k3;have HB2:=hide (HBe1.out.trans (hb2.mono (by omega)));have hz2:=hb2.size;clear hb2 k3)
      | (go_at_call 74;refine (Calls.mono (HWb.out _ _) ?_);rintro e w9 ⟨f,t9,rfl,hf,hkf,hb9⟩;have HK9:=hide hkf;have HB9:=hide hb9;clear hkf hb9))
     go_ret2
     exact BOpenP.bad HR.out (by decide) (by omega) HK9.out (HB2.out.trans (HB9.out.mono (by omega)))
   · rw [if_neg g1] at hR
     obtain ⟨zb,c,hbr⟩:∃ zb c,backR P x4 x3 freshL 0 [] = (zb,c):=⟨_,_,rfl⟩
     rw [show backR P (Hd.bits ⟨x0,x1,x2,x3,x4⟩) (Hd.segs ⟨x0,x1,x2,x3,x4⟩) freshL 0 [] = (zb,c) from hbr] at hR
     have bk:=fun (W:World) (hW:Below w.heap.size w W) => sback_any P x4 x3 q0 q1 W (hS.below hW (Nat.le_refl _)) p3' (by omega)
     rw [hbr] at bk
     have bk2:∀ (W:World),Below w.heap.size w W → Calls Tryz.prog 21 #[bstr P x4,.int .i64 x3] W fun e w' => e = .returned (.tuple #[.string (strOf c),.int .i64 zb]) ∧ Below W.heap.size W w':=fun W hW => bk W hW
     have hmin:min (x3:Int) 65537 = (x3:Nat):=by omega
     by_cases hzb:zb = 0
     · subst hzb
       rw [if_neg (by simp)] at hR
       replace hR:R = textW2 ⟨x0,x1,x2,x3,x4⟩ c:=hR
       obtain ⟨b1,b2⟩:=backR_ok x3 fresh_ok (Nat.zero_le _) (by simp) (by simp) hbr
       have hsz:(strOf c).size = c.length:=strOf_size c
       have hst:strL (strOf c) = c:=strL_of b1
       unfold textW2 at hR
       have HBk:=hide bk2
       clear bk bk2 hbr p3' hS
       by_cases g2:c.length = x0
       · rw [if_neg (by simpa using g2)] at hR
         by_cases g3:4096 < c.length
         · rw [if_pos g3] at hR
           have tx:=fun (W:World) => text_over (strOf c) x1 W (by omega) (by omega)
           have wb:=fun (t:ByteArray) (W:World) => wrong_bad (z:=1) t W (by decide)
           obtain ⟨V,hV⟩:∃ V,V = strOf c:=⟨_,rfl⟩
           rw [← hV] at HBk tx hsz
           have HTx:=hide tx
           have HWb:=hide wb
           have HR:=hide hR
           have hcn:(V.size:Int) = (x0:Int):=by omega
           have hcb:V.size ≤ 65536:=by omega
           clear tx wb hR hst hsz g2 g3 b1 hV
           go_enter Tryz.func41,Tryz.ntmps41
           go_upto_region 4 with (go_at_call 45;refine (Calls.mono (HPg.out _) ?_);rintro e w1 ⟨rfl,hb1⟩;have HB1:=hide hb1;clear hb1)
           have hz1:=HB1.out.size
           have k3:Bk ((w1.alloc (.cells #[.int .u64 x0,.int .u64 x1,.int .u32 x2,.int .u64 x3,.int .u64 x4] 25)).alloc (.cells #[.string P,.int .i64 x4] 27)) w1.heap.size 25 #[.int .u64 x0,.int .u64 x1,.int .u32 x2,.int .u64 x3,.int .u64 x4]:=(Bk.new w1 _ _).alloc _
           have k4:Bk ((w1.alloc (.cells #[.int .u64 x0,.int .u64 x1,.int .u32 x2,.int .u64 x3,.int .u64 x4] 25)).alloc (.cells #[.string P,.int .i64 x4] 27)) (w1.heap.size + 1) 27 #[.string P,.int .i64 x4]:=Bk.new1 w1 _ _ _
           have hbe:Below w.heap.size w ((w1.alloc (.cells #[.int .u64 x0,.int .u64 x1,.int .u32 x2,.int .u64 x3,.int .u64 x4] 25)).alloc (.cells #[.string P,.int .i64 x4] 27)):=(HB1.out.alloc (by omega) _).alloc (by simp;omega) _
           obtain ⟨W1,hW1⟩:∃ W,W = (w1.alloc (.cells #[.int .u64 x0,.int .u64 x1,.int .u32 x2,.int .u64 x3,.int .u64 x4] 25)).alloc (.cells #[.string P,.int .i64 x4] 27):=⟨_,rfl⟩
           rw [← hW1] at k3 k4 hbe ⊢
           obtain ⟨⟨r0,r1,r2,r3,r4⟩,_⟩:=five_cells k3
           obtain ⟨r5,r6⟩:=two_cells k4
           have hlt1:=k4.lt
           have K3:=hide k3
           have HBe1:=hide hbe
           clear k3 k4 hbe hW1 HB1
           go_wp2_with (first
            | (go_at_call 21;refine (Calls.mono (HBk.out _ (HBe1.out)) ?_);rintro e w2 ⟨rfl,hb2⟩;have k3:=K3.out.keep hb2;obtain ⟨⟨a0,a1,a2,a3,a4⟩,_⟩:=five_cells k3;have K32:=hide k3;have HB2:=hide (HBe1.out.trans (hb2.mono (by omega)));have hz2:=hb2.size;clear hb2 k3)
            | (go_at_call 75;refine (Calls.mono (HTx.out _) ?_);rintro e w3 ⟨rfl,hb3⟩;have k3:=K32.out.keep hb3;obtain ⟨⟨e0,e1,e2,e3,e4⟩,_⟩:=five_cells k3;have K33:=hide k3;have HB3:=hide (HB2.out.trans (hb3.mono (by omega)));have hz3:=hb3.size;clear hb3 k3)
            | (go_at_call 74;refine (Calls.mono (HWb.out _ _) ?_);rintro e w9 ⟨f,t9,rfl,hf,hkf,hb9⟩;have HK9:=hide hkf;have HB9:=hide hb9;clear hkf hb9))
           go_ret2
           exact BOpenP.bad HR.out (by decide) (by omega) HK9.out (HB3.out.trans (HB9.out.mono (by omega)))
         · rw [if_neg g3] at hR
           have tx:=fun (W:World) => text_any (strOf c) x1 W (by omega) (by omega)
           rw [hst] at tx
           cases htb:textB c x1 with
           | none =>
             rw [show textB c (Hd.prim ⟨x0,x1,x2,x3,x4⟩) = none from htb] at hR
             replace hR:R = (7,[]):=hR
             rw [textV_none htb] at tx
             have wb:=fun (t:ByteArray) (W:World) => wrong_bad (z:=7) t W (by decide)
             obtain ⟨V,hV⟩:∃ V,V = strOf c:=⟨_,rfl⟩
             rw [← hV] at HBk tx hsz
             have HTx:=hide tx
             have HWb:=hide wb
             have HR:=hide hR
             have hcn:(V.size:Int) = (x0:Int):=by omega
             have hcb:V.size ≤ 65536:=by omega
             clear tx wb hR hst hsz g2 g3 b1 hV htb
             go_enter Tryz.func41,Tryz.ntmps41
             go_upto_region 4 with (go_at_call 45;refine (Calls.mono (HPg.out _) ?_);rintro e w1 ⟨rfl,hb1⟩;have HB1:=hide hb1;clear hb1)
             have hz1:=HB1.out.size
             have k3:Bk ((w1.alloc (.cells #[.int .u64 x0,.int .u64 x1,.int .u32 x2,.int .u64 x3,.int .u64 x4] 25)).alloc (.cells #[.string P,.int .i64 x4] 27)) w1.heap.size 25 #[.int .u64 x0,.int .u64 x1,.int .u32 x2,.int .u64 x3,.int .u64 x4]:=(Bk.new w1 _ _).alloc _
             have k4:Bk ((w1.alloc (.cells #[.int .u64 x0,.int .u64 x1,.int .u32 x2,.int .u64 x3,.int .u64 x4] 25)).alloc (.cells #[.string P,.int .i64 x4] 27)) (w1.heap.size + 1) 27 #[.string P,.int .i64 x4]:=Bk.new1 w1 _ _ _
             have hbe:Below w.heap.size w ((w1.alloc (.cells #[.int .u64 x0,.int .u64 x1,.int .u32 x2,.int .u64 x3,.int .u64 x4] 25)).alloc (.cells #[.string P,.int .i64 x4] 27)):=(HB1.out.alloc (by omega) _).alloc (by simp;omega) _
             obtain ⟨W1,hW1⟩:∃ W,W = (w1.alloc (.cells #[.int .u64 x0,.int .u64 x1,.int .u32 x2,.int .u64 x3,.int .u64 x4] 25)).alloc (.cells #[.string P,.int .i64 x4] 27):=⟨_,rfl⟩
             rw [← hW1] at k3 k4 hbe ⊢
             obtain ⟨⟨r0,r1,r2,r3,r4⟩,_⟩:=five_cells k3
             obtain ⟨r5,r6⟩:=two_cells k4
             have hlt1:=k4.lt
             have K3:=hide k3
             have HBe1:=hide hbe
             clear k3 k4 hbe hW1 HB1
             go_wp2_with (first
              | (go_at_call 21;refine (Calls.mono (HBk.out _ (HBe1.out)) ?_);rintro e w2 ⟨rfl,hb2⟩;have k3:=K3.out.keep hb2;obtain ⟨⟨a0,a1,a2,a3,a4⟩,_⟩:=five_cells k3;have K32:=hide k3;have HB2:=hide (HBe1.out.trans (hb2.mono (by omega)));have hz2:=hb2.size;clear hb2 k3)
              | (go_at_call 75;refine (Calls.mono (HTx.out _) ?_);rintro e w3 ⟨rfl,hb3⟩;have k3:=K32.out.keep hb3;obtain ⟨⟨e0,e1,e2,e3,e4⟩,_⟩:=five_cells k3;have K33:=hide k3;have HB3:=hide (HB2.out.trans (hb3.mono (by omega)));have hz3:=hb3.size;clear hb3 k3)
              | (go_at_call 74;refine (Calls.mono (HWb.out _ _) ?_);rintro e w9 ⟨f,t9,rfl,hf,hkf,hb9⟩;have HK9:=hide hkf;have HB9:=hide hb9;clear hkf hb9))
             go_ret2
             exact BOpenP.bad HR.out (by decide) (by omega) HK9.out (HB3.out.trans (HB9.out.mono (by omega)))
           | some t =>
             rw [show textB c (Hd.prim ⟨x0,x1,x2,x3,x4⟩) = some t from htb] at hR
             rw [textV_some htb] at tx
             have htl:=textB_len htb
             have htb2:=textB_lt b1 htb
             have hts:strL (strOf t) = t:=strL_of htb2
             have htz:(strOf t).size = t.length:=strOf_size t
             have sm:=fun (W:World) (b:Nat) (h:W.cell? ⟨b,0,none⟩ = some (.string (strOf t))) => sum_one b 0 1 (strOf t) W h (by omega)
             rw [hts] at sm
             obtain ⟨C,hC⟩:∃ C,C = crcS t:=⟨_,rfl⟩
             rw [← hC] at sm
             replace hR:R = if C = x2 then (0,t) else (6,[]):=by rw [hR,hC]
             obtain ⟨V,hV⟩:∃ V,V = strOf c:=⟨_,rfl⟩
             obtain ⟨T,hT⟩:∃ T,T = strOf t:=⟨_,rfl⟩
             rw [← hV] at HBk tx hsz
             rw [← hT] at tx sm
             have HTx:=hide tx
             have HSm:=hide sm
             have HTe:=hide hT
             have hcn:(V.size:Int) = (x0:Int):=by omega
             have hcb:V.size ≤ 65536:=by omega
             clear tx sm hst hsz g2 g3 b1 hV htb htl htb2 hts htz hT hC
             by_cases g4:C = x2
             · rw [if_pos g4] at hR
               have HR:=hide hR
               have hcx:(C:Int) = (x2:Int):=by omega
               clear hR g4
               go_enter Tryz.func41,Tryz.ntmps41
               go_upto_region 4 with (go_at_call 45;refine (Calls.mono (HPg.out _) ?_);rintro e w1 ⟨rfl,hb1⟩;have HB1:=hide hb1;clear hb1)
               have hz1:=HB1.out.size
               have k3:Bk ((w1.alloc (.cells #[.int .u64 x0,.int .u64 x1,.int .u32 x2,.int .u64 x3,.int .u64 x4] 25)).alloc (.cells #[.string P,.int .i64 x4] 27)) w1.heap.size 25 #[.int .u64 x0,.int .u64 x1,.int .u32 x2,.int .u64 x3,.int .u64 x4]:=(Bk.new w1 _ _).alloc _
               have k4:Bk ((w1.alloc (.cells #[.int .u64 x0,.int .u64 x1,.int .u32 x2,.int .u64 x3,.int .u64 x4] 25)).alloc (.cells #[.string P,.int .i64 x4] 27)) (w1.heap.size + 1) 27 #[.string P,.int .i64 x4]:=Bk.new1 w1 _ _ _
               have hbe:Below w.heap.size w ((w1.alloc (.cells #[.int .u64 x0,.int .u64 x1,.int .u32 x2,.int .u64 x3,.int .u64 x4] 25)).alloc (.cells #[.string P,.int .i64 x4] 27)):=(HB1.out.alloc (by omega) _).alloc (by simp;omega) _
               obtain ⟨W1,hW1⟩:∃ W,W = (w1.alloc (.cells #[.int .u64 x0,.int .u64 x1,.int .u32 x2,.int .u64 x3,.int .u64 x4] 25)).alloc (.cells #[.string P,.int .i64 x4] 27):=⟨_,rfl⟩
               rw [← hW1] at k3 k4 hbe ⊢
               obtain ⟨⟨r0,r1,r2,r3,r4⟩,_⟩:=five_cells k3
               obtain ⟨r5,r6⟩:=two_cells k4
               have hlt1:=k4.lt
               have K3:=hide k3
               have HBe1:=hide hbe
               clear k3 k4 hbe hW1 HB1
               go_wp2_with (first
                | (go_at_call 21;refine (Calls.mono (HBk.out _ (HBe1.out)) ?_);rintro e w2 ⟨rfl,hb2⟩;have k3:=K3.out.keep hb2;obtain ⟨⟨a0,a1,a2,a3,a4⟩,_⟩:=five_cells k3;have K32:=hide k3;have HB2:=hide (HBe1.out.trans (hb2.mono (by omega)));have hz2:=hb2.size;clear hb2 k3)
                | (go_at_call 75;refine (Calls.mono (HTx.out _) ?_);rintro e w3 ⟨rfl,hb3⟩;have k3:=K32.out.keep hb3;obtain ⟨⟨e0,e1,e2,e3,e4⟩,_⟩:=five_cells k3;have K33:=hide k3;have HB3:=hide (HB2.out.trans (hb3.mono (by omega)));have hz3:=hb3.size;clear hb3 k3))
               have e2d:w3.drew.cell? ⟨w1.heap.size,2,none⟩ = some (.int .u32 x2):=e2
               have e2a:((w3.alloc (.cells #[.string T] 9)).drew).cell? ⟨w1.heap.size,2,none⟩ = some (.int .u32 x2):=(five_cells ((K33.out.alloc (.cells #[.string T] 9)).drew)).1.2.2.1
               have HSm1:=hide (HSm.out ((w3.alloc (.cells #[.string T] 9)).drew) w3.heap.size (((Bk.new w3 9 #[.string T]).cell 0).trans rfl))
               go_region_held3 (fun w' => w'.cell? ⟨w1.heap.size,2,none⟩ = some (.int .u32 x2))
                (first | with_reducible exact e2d | with_reducible exact e2a)
                (first | (go_at_call 18;refine (Calls.mono HSm1.out ?_);rintro e w5 ⟨rfl,rfl⟩))
               have hb5:Below w.heap.size w ((w3.alloc (.cells #[.string T] 9)).drew):=(HB3.out.alloc (by omega) _).drew
               obtain ⟨W5,hW5⟩:∃ W,W = (w3.alloc (.cells #[.string T] 9)).drew:=⟨_,rfl⟩
               rw [← hW5] at hb5 ⊢
               have HB5:=hide hb5
               have hz5:=hb5.size
               clear hb5 hW5 e2d e2a HSm1 HSm
               go_wp2_with fail
               go_ret2
               rw [HTe.out]
               exact BOpenP.good HR.out HB5.out
             · rw [if_neg g4] at hR
               have HR:=hide hR
               have hcx:¬ (C:Int) = (x2:Int):=by omega
               have wb:=fun (t:ByteArray) (W:World) => wrong_bad (z:=6) t W (by decide)
               have HWb:=hide wb
               clear hR g4 wb
               go_enter Tryz.func41,Tryz.ntmps41
               go_upto_region 4 with (go_at_call 45;refine (Calls.mono (HPg.out _) ?_);rintro e w1 ⟨rfl,hb1⟩;have HB1:=hide hb1;clear hb1)
               have hz1:=HB1.out.size
               have k3:Bk ((w1.alloc (.cells #[.int .u64 x0,.int .u64 x1,.int .u32 x2,.int .u64 x3,.int .u64 x4] 25)).alloc (.cells #[.string P,.int .i64 x4] 27)) w1.heap.size 25 #[.int .u64 x0,.int .u64 x1,.int .u32 x2,.int .u64 x3,.int .u64 x4]:=(Bk.new w1 _ _).alloc _
               have k4:Bk ((w1.alloc (.cells #[.int .u64 x0,.int .u64 x1,.int .u32 x2,.int .u64 x3,.int .u64 x4] 25)).alloc (.cells #[.string P,.int .i64 x4] 27)) (w1.heap.size + 1) 27 #[.string P,.int .i64 x4]:=Bk.new1 w1 _ _ _
               have hbe:Below w.heap.size w ((w1.alloc (.cells #[.int .u64 x0,.int .u64 x1,.int .u32 x2,.int .u64 x3,.int .u64 x4] 25)).alloc (.cells #[.string P,.int .i64 x4] 27)):=(HB1.out.alloc (by omega) _).alloc (by simp;omega) _
               obtain ⟨W1,hW1⟩:∃ W,W = (w1.alloc (.cells #[.int .u64 x0,.int .u64 x1,.int .u32 x2,.int .u64 x3,.int .u64 x4] 25)).alloc (.cells #[.string P,.int .i64 x4] 27):=⟨_,rfl⟩
               rw [← hW1] at k3 k4 hbe ⊢
               obtain ⟨⟨r0,r1,r2,r3,r4⟩,_⟩:=five_cells k3
               obtain ⟨r5,r6⟩:=two_cells k4
               have hlt1:=k4.lt
               have K3:=hide k3
               have HBe1:=hide hbe
               clear k3 k4 hbe hW1 HB1
               go_wp2_with (first
                | (go_at_call 21;refine (Calls.mono (HBk.out _ (HBe1.out)) ?_);rintro e w2 ⟨rfl,hb2⟩;have k3:=K3.out.keep hb2;obtain ⟨⟨a0,a1,a2,a3,a4⟩,_⟩:=five_cells k3;have K32:=hide k3;have HB2:=hide (HBe1.out.trans (hb2.mono (by omega)));have hz2:=hb2.size;clear hb2 k3)
                | (go_at_call 75;refine (Calls.mono (HTx.out _) ?_);rintro e w3 ⟨rfl,hb3⟩;have k3:=K32.out.keep hb3;obtain ⟨⟨e0,e1,e2,e3,e4⟩,_⟩:=five_cells k3;have K33:=hide k3;have HB3:=hide (HB2.out.trans (hb3.mono (by omega)));have hz3:=hb3.size;clear hb3 k3))
               have e2d:w3.drew.cell? ⟨w1.heap.size,2,none⟩ = some (.int .u32 x2):=e2
               have e2a:((w3.alloc (.cells #[.string T] 9)).drew).cell? ⟨w1.heap.size,2,none⟩ = some (.int .u32 x2):=(five_cells ((K33.out.alloc (.cells #[.string T] 9)).drew)).1.2.2.1
               have HSm1:=hide (HSm.out ((w3.alloc (.cells #[.string T] 9)).drew) w3.heap.size (((Bk.new w3 9 #[.string T]).cell 0).trans rfl))
               go_region_held3 (fun w' => w'.cell? ⟨w1.heap.size,2,none⟩ = some (.int .u32 x2))
                (first | with_reducible exact e2d | with_reducible exact e2a)
                (first | (go_at_call 18;refine (Calls.mono HSm1.out ?_);rintro e w5 ⟨rfl,rfl⟩))
               have hb5:Below w.heap.size w ((w3.alloc (.cells #[.string T] 9)).drew):=(HB3.out.alloc (by omega) _).drew
               obtain ⟨W5,hW5⟩:∃ W,W = (w3.alloc (.cells #[.string T] 9)).drew:=⟨_,rfl⟩
               rw [← hW5] at hb5 ⊢
               have HB5:=hide hb5
               have hz5:=hb5.size
               clear hb5 hW5 e2d e2a HSm1 HSm
               go_wp2_with (go_at_call 74;refine (Calls.mono (HWb.out _ _) ?_);rintro e w9 ⟨f,t9,rfl,hf,hkf,hb9⟩;have HK9:=hide hkf;have HB9:=hide hb9;clear hkf hb9)
               go_ret2
               exact BOpenP.bad HR.out (by decide) (by omega) HK9.out (HB5.out.trans (HB9.out.mono (by omega)))
       · rw [if_pos g2] at hR
         have HR:=hide hR
         have wb:=fun (t:ByteArray) (W:World) => wrong_bad (z:=7) t W (by decide)
         obtain ⟨V,hV⟩:∃ V,V = strOf c:=⟨_,rfl⟩
         rw [← hV] at HBk hsz
         have HWb:=hide wb
         have hcn:¬ (V.size:Int) = (x0:Int):=by omega
         have hcb:V.size ≤ 65536:=by omega
         clear wb hR hst hsz g2 b1 hV
         go_enter Tryz.func41,Tryz.ntmps41
         go_upto_region 4 with (go_at_call 45;refine (Calls.mono (HPg.out _) ?_);rintro e w1 ⟨rfl,hb1⟩;have HB1:=hide hb1;clear hb1)
         have hz1:=HB1.out.size
         have k3:Bk ((w1.alloc (.cells #[.int .u64 x0,.int .u64 x1,.int .u32 x2,.int .u64 x3,.int .u64 x4] 25)).alloc (.cells #[.string P,.int .i64 x4] 27)) w1.heap.size 25 #[.int .u64 x0,.int .u64 x1,.int .u32 x2,.int .u64 x3,.int .u64 x4]:=(Bk.new w1 _ _).alloc _
         have k4:Bk ((w1.alloc (.cells #[.int .u64 x0,.int .u64 x1,.int .u32 x2,.int .u64 x3,.int .u64 x4] 25)).alloc (.cells #[.string P,.int .i64 x4] 27)) (w1.heap.size + 1) 27 #[.string P,.int .i64 x4]:=Bk.new1 w1 _ _ _
         have hbe:Below w.heap.size w ((w1.alloc (.cells #[.int .u64 x0,.int .u64 x1,.int .u32 x2,.int .u64 x3,.int .u64 x4] 25)).alloc (.cells #[.string P,.int .i64 x4] 27)):=(HB1.out.alloc (by omega) _).alloc (by simp;omega) _
         obtain ⟨W1,hW1⟩:∃ W,W = (w1.alloc (.cells #[.int .u64 x0,.int .u64 x1,.int .u32 x2,.int .u64 x3,.int .u64 x4] 25)).alloc (.cells #[.string P,.int .i64 x4] 27):=⟨_,rfl⟩
         rw [← hW1] at k3 k4 hbe ⊢
         obtain ⟨⟨r0,r1,r2,r3,r4⟩,_⟩:=five_cells k3
         obtain ⟨r5,r6⟩:=two_cells k4
         have hlt1:=k4.lt
         have K3:=hide k3
         have HBe1:=hide hbe
         clear k3 k4 hbe hW1 HB1
         go_wp2_with (first
          | (go_at_call 21;refine (Calls.mono (HBk.out _ (HBe1.out)) ?_);rintro e w2 ⟨rfl,hb2⟩;have k3:=K3.out.keep hb2;obtain ⟨⟨a0,a1,a2,a3,a4⟩,_⟩:=five_cells k3;have K32:=hide k3;have HB2:=hide (HBe1.out.trans (hb2.mono (by omega)));have hz2:=hb2.size;clear hb2 k3)
          | (go_at_call 74;refine (Calls.mono (HWb.out _ _) ?_);rintro e w9 ⟨f,t9,rfl,hf,hkf,hb9⟩;have HK9:=hide hkf;have HB9:=hide hb9;clear hkf hb9))
         go_ret2
         exact BOpenP.bad HR.out (by decide) (by omega) HK9.out (HB2.out.trans (HB9.out.mono (by omega)))
     · rw [if_pos hzb] at hR
       replace hR:R = (zb,[]):=hR
       have wb:=fun (t:ByteArray) (W:World) => wrong_bad (z:=zb) t W hzb
       obtain ⟨V,hV⟩:∃ V,V = strOf c:=⟨_,rfl⟩
       rw [← hV] at bk2
       have HBk:=hide bk2
       have HWb:=hide wb
       have HR:=hide hR
       clear bk bk2 wb hR p3' hS hbr hV
       go_enter Tryz.func41,Tryz.ntmps41
       go_upto_region 4 with (go_at_call 45;refine (Calls.mono (HPg.out _) ?_);rintro e w1 ⟨rfl,hb1⟩;have HB1:=hide hb1;clear hb1)
       have hz1:=HB1.out.size
       have k3:Bk ((w1.alloc (.cells #[.int .u64 x0,.int .u64 x1,.int .u32 x2,.int .u64 x3,.int .u64 x4] 25)).alloc (.cells #[.string P,.int .i64 x4] 27)) w1.heap.size 25 #[.int .u64 x0,.int .u64 x1,.int .u32 x2,.int .u64 x3,.int .u64 x4]:=(Bk.new w1 _ _).alloc _
       have k4:Bk ((w1.alloc (.cells #[.int .u64 x0,.int .u64 x1,.int .u32 x2,.int .u64 x3,.int .u64 x4] 25)).alloc (.cells #[.string P,.int .i64 x4] 27)) (w1.heap.size + 1) 27 #[.string P,.int .i64 x4]:=Bk.new1 w1 _ _ _
       have hbe:Below w.heap.size w ((w1.alloc (.cells #[.int .u64 x0,.int .u64 x1,.int .u32 x2,.int .u64 x3,.int .u64 x4] 25)).alloc (.cells #[.string P,.int .i64 x4] 27)):=(HB1.out.alloc (by omega) _).alloc (by simp;omega) _
       obtain ⟨W1,hW1⟩:∃ W,W = (w1.alloc (.cells #[.int .u64 x0,.int .u64 x1,.int .u32 x2,.int .u64 x3,.int .u64 x4] 25)).alloc (.cells #[.string P,.int .i64 x4] 27):=⟨_,rfl⟩
       rw [← hW1] at k3 k4 hbe ⊢
       obtain ⟨⟨r0,r1,r2,r3,r4⟩,_⟩:=five_cells k3
       obtain ⟨r5,r6⟩:=two_cells k4
       have hlt1:=k4.lt
       have K3:=hide k3
       have HBe1:=hide hbe
       clear k3 k4 hbe hW1 HB1
       go_wp2_with (first
        | (go_at_call 21;refine (Calls.mono (HBk.out _ (HBe1.out)) ?_);rintro e w2 ⟨rfl,hb2⟩;have k3:=K3.out.keep hb2;obtain ⟨⟨a0,a1,a2,a3,a4⟩,_⟩:=five_cells k3;have K32:=hide k3;have HB2:=hide (HBe1.out.trans (hb2.mono (by omega)));have hz2:=hb2.size;clear hb2 k3)
        | (go_at_call 74;refine (Calls.mono (HWb.out _ _) ?_);rintro e w9 ⟨f,t9,rfl,hf,hkf,hb9⟩;have HK9:=hide hkf;have HB9:=hide hb9;clear hkf hb9))
       go_ret2
       exact BOpenP.bad HR.out hzb (by omega) HK9.out (HB2.out.trans (HB9.out.mono (by omega)))
 · rw [if_pos hp0] at hR
   obtain ⟨z,hz⟩:∃ z,z = partsW (strL s):=⟨_,rfl⟩
   have pb:=fun (W:World) => parts_bad s W h64 hz.symm (by rw [hz];exact hp0)
   rw [← hz] at hR hp0
   have HPb:=hide pb
   have HR:=hide hR
   clear pb hR hz
   go_enter Tryz.func41,Tryz.ntmps41
   go_wp2_with (go_at_call 45;refine (Calls.mono (HPb.out _) ?_);rintro e w1 ⟨f,t,rfl,hf,hkf,hb1⟩;have HB1:=hide hb1;have HKf:=hide hkf;have hz1:=hb1.size;clear hb1 hkf)
   go_ret2
   exact BOpenP.bad HR.out hp0 hf ((HKf.out.alloc _).alloc _) ((HB1.out.alloc (by omega) _).alloc (by simp;omega) _)
set_option maxHeartbeats 1000000 in
theorem bopenN_any (s:ByteArray) (q0 q1:Addr) (w:World) (hS:Sent2 w q0 q1) (hT:ErrT w) (h64:s.size ≤ 1000000):Calls Tryz.prog 16 #[.string s] w fun e w' => e = .returned (.tuple #[.string (strOf (openR (strL s)).2),.int .i64 (openR (strL s)).1]) ∧ Below w.heap.size w w':=by
 have op:=bopen_any s q0 q1 w hS h64
 obtain ⟨Z,hZ⟩:∃ Z,Z = (openR (strL s)).1:=⟨_,rfl⟩
 obtain ⟨V,hV⟩:∃ V,V = strOf (openR (strL s)).2:=⟨_,rfl⟩
 unfold BOpenP at op
 rw [← hZ,← hV] at op
 rw [← hZ,← hV]
 have nm:=fun (v:Value) (W:World) (h:ErrV Z w.heap.size v W) (hT:ErrT W) => number_any Z w.heap.size v W h hT
 have HOp:=hide op
 have HNm:=hide nm
 have HT:=hide hT
 clear op nm hZ hV hT hS
 go_enter Tryz.func16,Tryz.ntmps16
 go_wp2_with (first
  | (go_at_call 41;refine (Calls.mono HOp.out ?_);rintro e w1 ⟨⟨v1,rfl,he1⟩,hb1⟩;have HE1:=hide he1;have HB1:=hide hb1;have HT1:=hide (HT.out.keep hb1);have hz1:=hb1.size;clear he1 hb1)
  | (go_at_call 42;refine (Calls.mono (HNm.out v1 w1 HE1.out HT1.out) ?_);rintro e w2 ⟨rfl,hb2⟩;have HB2:=hide hb2;clear hb2))
 go_ret2
 exact ⟨rfl,HB1.out.trans (HB2.out.mono hz1)⟩
theorem partsV_form (s:List Nat):∃ (P:ByteArray) (N:Int),partsV s = .agg #[.string P,.int .i64 N]:=by
 unfold partsV
 split
 · exact ⟨_,_,rfl⟩
 · exact ⟨_,_,rfl⟩
set_option maxHeartbeats 4000000 in
theorem partsN_any (s:ByteArray) (w:World) (h64:s.size ≤ 1000000) (hT:ErrT w):Calls Tryz.prog 19 #[.string s] w fun e w' => e = .returned (.tuple #[headV (partsH (strL s)),partsV (strL s),.int .i64 (partsW (strL s))]) ∧ Below w.heap.size w w':=by
 have hd:=fun (W:World) => parts_any s W h64
 have nm:=fun (z:Int) (B:Nat) (v:Value) (W:World) (h:ErrV z B v W) (hT:ErrT W) => number_any z B v W h hT
 obtain ⟨Z,hZ⟩:∃ Z,Z = partsW (strL s):=⟨_,rfl⟩
 obtain ⟨H,hH⟩:∃ H,H = partsH (strL s):=⟨_,rfl⟩
 obtain ⟨P,N,hV⟩:=partsV_form (strL s)
 unfold PartsP at hd
 rw [← hZ,← hH,hV] at hd
 rw [← hZ,← hH,hV]
 obtain ⟨x0,x1,x2,x3,x4⟩:=H
 have HHd:=hide hd
 have HNm:=hide nm
 have HK1:=hide (show Bk ((w.alloc (.cells #[.int .u64 0,.int .u64 0,.int .u32 0,.int .u64 0,.int .u64 0] 25)).alloc (.cells #[.string ⟨#[]⟩,.int .i64 0] 27)) w.heap.size 25 #[.int .u64 0,.int .u64 0,.int .u32 0,.int .u64 0,.int .u64 0] from (Bk.new w _ _).alloc _)
 have HK2:=hide (show Bk ((w.alloc (.cells #[.int .u64 0,.int .u64 0,.int .u32 0,.int .u64 0,.int .u64 0] 25)).alloc (.cells #[.string ⟨#[]⟩,.int .i64 0] 27)) (w.heap.size + 1) 27 #[.string ⟨#[]⟩,.int .i64 0] from Bk.new1 w _ _ _)
 have HBe:Hid (Below w.heap.size w ((w.alloc (.cells #[.int .u64 0,.int .u64 0,.int .u32 0,.int .u64 0,.int .u64 0] 25)).alloc (.cells #[.string ⟨#[]⟩,.int .i64 0] 27))):=hide (((Below.refl _ w).alloc (Nat.le_refl _) _).alloc (by simp) _)
 have HT:=hide ((hT.alloc (.cells #[.int .u64 0,.int .u64 0,.int .u32 0,.int .u64 0,.int .u64 0] 25)).alloc (.cells #[.string ⟨#[]⟩,.int .i64 0] 27))
 clear hd nm hZ hH hT hV
 unfold headV at HHd ⊢
 go_enter Tryz.func19,Tryz.ntmps19
 go_wp2_with (go_at_call 45;refine (Calls.mono (HHd.out _) ?_);rintro e w1 ⟨⟨v1,rfl,he1⟩,hb1⟩;have HE1:=hide he1;have HB1:=hide hb1;clear he1 hb1)
 have hz1:=HB1.out.size
 simp only [World.size_alloc] at hz1
 have k3:Bk ((w1.alloc (.cells #[.int .u64 x0,.int .u64 x1,.int .u32 x2,.int .u64 x3,.int .u64 x4] 25)).alloc (.cells #[.string P,.int .i64 N] 27)) w1.heap.size 25 #[.int .u64 x0,.int .u64 x1,.int .u32 x2,.int .u64 x3,.int .u64 x4]:=(Bk.new w1 _ _).alloc _
 have k4:Bk ((w1.alloc (.cells #[.int .u64 x0,.int .u64 x1,.int .u32 x2,.int .u64 x3,.int .u64 x4] 25)).alloc (.cells #[.string P,.int .i64 N] 27)) (w1.heap.size + 1) 27 #[.string P,.int .i64 N]:=Bk.new1 w1 _ _ _
 have k1:=((HK1.out.keep HB1.out).alloc (.cells #[.int .u64 x0,.int .u64 x1,.int .u32 x2,.int .u64 x3,.int .u64 x4] 25)).alloc (.cells #[.string P,.int .i64 N] 27)
 have k2:=((HK2.out.keep HB1.out).alloc (.cells #[.int .u64 x0,.int .u64 x1,.int .u32 x2,.int .u64 x3,.int .u64 x4] 25)).alloc (.cells #[.string P,.int .i64 N] 27)
 have hbe:Below w.heap.size w ((w1.alloc (.cells #[.int .u64 x0,.int .u64 x1,.int .u32 x2,.int .u64 x3,.int .u64 x4] 25)).alloc (.cells #[.string P,.int .i64 N] 27)):=((HBe.out.trans (HB1.out.mono (by simp;omega))).alloc (by omega) _).alloc (by simp;omega) _
 have he1:=(HE1.out.alloc (.cells #[.int .u64 x0,.int .u64 x1,.int .u32 x2,.int .u64 x3,.int .u64 x4] 25)).alloc (.cells #[.string P,.int .i64 N] 27)
 have ht1:=((HT.out.keep HB1.out).alloc (.cells #[.int .u64 x0,.int .u64 x1,.int .u32 x2,.int .u64 x3,.int .u64 x4] 25)).alloc (.cells #[.string P,.int .i64 N] 27)
 obtain ⟨W1,hW1⟩:∃ W,W = (w1.alloc (.cells #[.int .u64 x0,.int .u64 x1,.int .u32 x2,.int .u64 x3,.int .u64 x4] 25)).alloc (.cells #[.string P,.int .i64 N] 27):=⟨_,rfl⟩
 rw [← hW1] at k1 k2 k3 k4 hbe he1 ht1 ⊢
 have nm:=HNm.out Z _ v1 W1.drew he1 ht1
 obtain ⟨⟨r0,r1,r2,r3,r4⟩,_⟩:=five_cells (show Bk W1.drew w1.heap.size 25 #[.int .u64 x0,.int .u64 x1,.int .u32 x2,.int .u64 x3,.int .u64 x4] from k3)
 obtain ⟨r5,r6⟩:=two_cells (show Bk W1.drew (w1.heap.size + 1) 27 #[.string P,.int .i64 N] from k4)
 have hlt1:=k4.lt
 have HN1:=hide nm
 have K1:=hide k1
 have K2:=hide k2
 have K3:=hide k3
 have K4:=hide k4
 have HBe1:=hide hbe
 have hn1:w1.heap.size ≠ w.heap.size:=by omega
 have hn2:w1.heap.size ≠ w.heap.size + 1:=by omega
 have hn3:w1.heap.size + 1 ≠ w.heap.size:=by omega
 have hn4:w1.heap.size + 1 ≠ w.heap.size + 1:=by omega
 have hn5:w.heap.size ≠ w.heap.size + 1:=by omega
 clear nm k1 k2 k3 k4 hbe he1 ht1 hW1 HNm HHd HBe HT HB1 HE1 HK1 HK2
 go_region_held3 (fun w' => w'.cell? ⟨w1.heap.size,0,none⟩ = some (.int .u64 x0) ∧ w'.cell? ⟨w1.heap.size,1,none⟩ = some (.int .u64 x1) ∧ w'.cell? ⟨w1.heap.size,2,none⟩ = some (.int .u32 x2) ∧ w'.cell? ⟨w1.heap.size,3,none⟩ = some (.int .u64 x3) ∧ w'.cell? ⟨w1.heap.size,4,none⟩ = some (.int .u64 x4) ∧ w'.cell? ⟨w1.heap.size + 1,0,none⟩ = some (.string P) ∧ w'.cell? ⟨w1.heap.size + 1,1,none⟩ = some (.int .i64 N))
  (first | with_reducible exact ⟨r0,r1,r2,r3,r4,r5,r6⟩ | with_reducible exact ⟨v0,v1_,v2,v3,v4,v5,v6⟩ | with_reducible exact ⟨s0,s1,s2,s3,s4,s5,s6⟩ | with_reducible exact ⟨y0,y1,y2,y3,y4,y5,y6⟩)
  (first
  | (go_at_call 42;refine (Calls.mono HN1.out ?_);rintro e w2 ⟨rfl,hb2⟩
     have m1:=(show Bk W1.drew w.heap.size 25 #[.int .u64 0,.int .u64 0,.int .u32 0,.int .u64 0,.int .u64 0] from K1.out).keep hb2
     have m2:=(show Bk W1.drew (w.heap.size + 1) 27 #[.string ⟨#[]⟩,.int .i64 0] from K2.out).keep hb2
     have m3:=(show Bk W1.drew w1.heap.size 25 #[.int .u64 x0,.int .u64 x1,.int .u32 x2,.int .u64 x3,.int .u64 x4] from K3.out).keep hb2
     have m4:=(show Bk W1.drew (w1.heap.size + 1) 27 #[.string P,.int .i64 N] from K4.out).keep hb2
     obtain ⟨⟨v0,v1_,v2,v3,v4⟩,_⟩:=five_cells m3
     obtain ⟨v5,v6⟩:=two_cells m4
     have f3:=set5_far m3 hn1 (.int .u64 x0) (.int .u64 x1) (.int .u32 x2) (.int .u64 x3) (.int .u64 x4)
     have f4:=set5_far m4 hn3 (.int .u64 x0) (.int .u64 x1) (.int .u32 x2) (.int .u64 x3) (.int .u64 x4)
     have fc3:=(five_cells f3).1
     have fc4:=two_cells f4
     have g3:=set2_far f3 hn2 (.string P) (.int .i64 N)
     have g4:=set2_far f4 hn4 (.string P) (.int .i64 N)
     have gc3:=(five_cells g3).1
     have gc4:=two_cells g4
     have mk2:=set5_far m2 hn5.symm (.int .u64 x0) (.int .u64 x1) (.int .u32 x2) (.int .u64 x3) (.int .u64 x4)
     have mc2:=two_cells mk2
     have mf0:=mk2.free 0
     have mf1:=mk2.free 1
     unfold set5 at fc3 fc4 mc2 mf0 mf1
     unfold set2 set5 at gc3 gc4
     obtain ⟨s0,s1,s2,s3,s4⟩:=fc3
     obtain ⟨s5,s6⟩:=fc4
     obtain ⟨y0,y1,y2,y3,y4⟩:=gc3
     obtain ⟨y5,y6⟩:=gc4
     obtain ⟨z5,z6⟩:=mc2
     obtain ⟨⟨d0,d1,d2,d3,d4⟩,⟨g0,g1,g2,g3_,g4_⟩⟩:=five_cells m1
     obtain ⟨d5,d6⟩:=two_cells m2
     have g5_:=m2.free 0
     have g6_:=m2.free 1
     have M1:=hide m1
     have M2:=hide m2
     have HB2:=hide (HBe1.out.drew.trans (hb2.mono (by show w.heap.size ≤ W1.heap.size;omega)))
     clear m1 m2 m3 m4 f3 f4 g3 g4 mk2 hb2))
 go_wp2_with fail
 have b7:=set7_bk M1.out M2.out (.int .u64 x0) (.int .u64 x1) (.int .u32 x2) (.int .u64 x3) (.int .u64 x4) (.string P) (.int .i64 N)
 obtain ⟨⟨t0,t1,t2,t3,t4⟩,⟨t5,t6⟩⟩:=seven_cells b7
 have hbf:=set7_below HB2.out (Nat.le_refl _) (.int .u64 x0) (.int .u64 x1) (.int .u32 x2) (.int .u64 x3) (.int .u64 x4) (.string P) (.int .i64 N)
 unfold set7 set5 set2 at t0 t1 t2 t3 t4 t5 t6 hbf
 refine bodyPost_ret (v:=.tuple #[.agg #[.int .u64 x0,.int .u64 x1,.int .u32 x2,.int .u64 x3,.int .u64 x4],.agg #[.string P,.int .i64 N],.int .i64 Z]) (by simp [results,Tryz.results19,go_sem,t0,t1,t2,t3,t4,t5,t6]) rfl ?_
 exact ⟨rfl,hbf⟩
theorem allB_len:∀ (f:Nat) {row l:List Nat},RowOK row → (∀ c ∈ l,c < 256) → l.length ≤ f → (allB f row l).length ≤ 28000 * segsN l.length:=by
 intro f
 induction f with
 | zero => intro row l _ _ _;simp [allB]
 | succ f ih =>
   intro row l hr hl hf
   rw [allB]
   by_cases h0:l = []
   · rw [if_pos h0];simp
   · rw [if_neg h0]
     have hp:0 < l.length:=List.length_pos_iff.2 h0
     have h1:∀ c ∈ l.take 512,c < 256:=fun c hc => hl c (List.mem_of_mem_take hc)
     obtain ⟨q1,q2,q3⟩:=toL_ok hr h1
     have hb:=segBits_len (l:=encZ 0 (toL row (l.take 512)).1) (fun x hx => by have:=encZ_sym 0 q2 x hx;omega)
     have he:=encZ_snoc_len (toL row (l.take 512)).1 0
     rw [q3,List.length_take] at he
     have hi:=ih (row:=(toL row (l.take 512)).2) (l:=l.drop 512) q1 (fun c hc => hl c (List.mem_of_mem_drop hc)) (by rw [List.length_drop];omega)
     rw [List.length_drop] at hi
     rw [List.length_append,segsN_step hp]
     omega
theorem allL_len {l:List Nat} (hl:∀ c ∈ l,c < 256) (h:l.length ≤ 4096):(allL l).length ≤ 224000:=by
 have:=allB_len l.length fresh_ok hl (Nat.le_refl _)
 unfold allL
 have:segsN l.length ≤ 8:=by unfold segsN;omega
 omega
theorem sealL_lt {h:Hd} {b:List Nat} (hb:∀ x ∈ b,x < 256):∀ x ∈ sealL h b,x < 256:=by
 intro x hx
 unfold sealL at hx
 rcases List.mem_append.1 hx with hx | hx
 · rcases List.mem_append.1 hx with hx | hx
   · exact frontL_lt _ x hx
   · exact hb x hx
 · exact tail4_lt _ x hx
def BuildP (s:List Nat) (w:World) (e:Ending) (w':World):Prop:=(∃ out,e = .returned (.tuple #[.string (strOf out),.int .i64 0]) ∧ Built s out ∧ out.length ≤ 30000 ∧ ∀ x ∈ out,x < 256) ∧ Below w.heap.size w w'
theorem build_facts {s:ByteArray} {es:List Nat} {b:ByteArray} {N:Int} (hs:s.size ≤ 4096) (he:IsEnds (strL s) es) (hb:Bs b N (allL (colL (strL s) es))):∃ n:Nat,N = n ∧ n ≤ 224000 ∧ b.size ≤ 28000 ∧ rightB b n = true ∧ sealW ⟨s.size,primL (strL s) es,crcS (strL s),segsN s.size,n⟩ b n = 0 ∧ Built (strL s) (sealL ⟨s.size,primL (strL s) es,crcS (strL s),segsN s.size,n⟩ (strL b)) ∧ primL (strL s) es ≤ 4096 ∧ segsN s.size ≤ 8:=by
 have hl:=allL_len (colL_lt (strL_lt s) (es:=es)) (by rw [colL_len he,strL_length];exact hs)
 have hn:=hb.2.1
 have hr:=rightB_n hb.1
 have hp:=prim_len he
 rw [strL_length] at hp
 have hsg:segsN s.size ≤ 8:=by unfold segsN;omega
 refine ⟨(allL (colL (strL s) es)).length,hn,hl,by omega,by rw [← hn];exact hb.1, ?_,⟨es,b,_,he,by rw [← hn];exact hb,by rw [strL_length]⟩,by omega,hsg⟩
 unfold sealW
 rw [if_pos (by rw [← hn];exact hb.1),if_neg,if_neg (by omega)]
 rintro (h | h)
 · have h1:beyB ⟨s.size,primL (strL s) es,crcS (strL s),segsN s.size,(allL (colL (strL s) es)).length⟩ = false:=decide_eq_false (by show ¬ 1099511627776 ≤ max (max s.size (primL (strL s) es)) (segsN s.size);omega)
   rw [h1] at h;cases h
 · exact h rfl
set_option maxHeartbeats 4000000 in
theorem build_any (s:ByteArray) (w:World) (hs:s.size ≤ 4096):Calls Tryz.prog 12 #[.string s] w (BuildP (strL s) w):=by
 have co:=column_any s w hs
 have HCo:=hide co
 clear co
 go_enter Tryz.func12,Tryz.ntmps12
 go_upto_region 2 with (go_at_call 20;refine (Calls.mono HCo.out ?_);rintro e w1 ⟨es,hes,rfl,hb1⟩;have HEs:=hide hes;have HB1:=hide hb1;clear hes hb1)
 have hcl:=colL_len HEs.out
 rw [strL_length] at hcl
 have hclt:=colL_lt (strL_lt s) (es:=es)
 have hst:strL (strOf (colL (strL s) es)) = colL (strL s) es:=strL_of hclt
 have al:=fun (W:World) => segAll_any (strOf (colL (strL s) es)) W (by rw [strOf_size];omega)
 rw [hst,strOf_size,hcl] at al
 have bf:=fun (b:ByteArray) (N:Int) (hb:Bs b N (allL (colL (strL s) es))) => build_facts hs HEs.out hb
 obtain ⟨V,hV⟩:∃ V,V = strOf (colL (strL s) es):=⟨_,rfl⟩
 obtain ⟨p,hp⟩:∃ p,p = primL (strL s) es:=⟨_,rfl⟩
 rw [← hV] at al ⊢
 rw [← hp] at bf ⊢
 have HAl:=hide al
 have HBf:=hide bf
 clear al bf hV hp hcl hclt hst
 go_upto_region 5 with (go_at_call 30;refine (Calls.mono (HAl.out _) ?_);rintro e w2 ⟨⟨b,N,rfl,hbs⟩,hb2⟩;have hx:=HBf.out b N hbs;obtain ⟨n,rfl,n1,n2,n3,n4,n5,n6,n7⟩:=hx;have HSw:=hide n4;have HBt:=hide n5;have HR:=hide n3;have HB2:=hide hb2;clear hbs hb2 n3 n4 n5)
 have hz1:=HB1.out.size
 have hz2:=HB2.out.size
 have k2:Bk (w2.alloc (.cells #[.string b,.int .i64 n] 27)) w2.heap.size 27 #[.string b,.int .i64 n]:=Bk.new w2 _ _
 have hbe:Below w.heap.size w (w2.alloc (.cells #[.string b,.int .i64 n] 27)):=(HB1.out.trans (HB2.out.mono hz1)).alloc (by omega) _
 obtain ⟨g7,hg7⟩:∃ g,g = w2.heap.size:=⟨_,rfl⟩
 rw [← hg7] at k2 ⊢
 obtain ⟨W2,hW2⟩:∃ W,W = w2.alloc (.cells #[.string b,.int .i64 n] 27):=⟨_,rfl⟩
 rw [← hW2] at k2 hbe ⊢
 obtain ⟨G,hG⟩:∃ G,G = segsN s.size:=⟨_,rfl⟩
 rw [← hG] at HSw HBt n7 ⊢
 have K2:=hide k2
 have HBe:=hide hbe
 have sl:=fun (W:World) => seal_any ⟨s.size,p,crcS (strL s),G,n⟩ b n W (crcS_lt _) ⟨by omega,by omega⟩ (by omega)
 have sm:=fun (W:World) (g:Nat) (h:W.cell? ⟨g,0,none⟩ = some (.string s)) => sum_one g 0 1 s W h (by omega)
 have hbl:∀ x ∈ strL b,x < 256:=strL_lt b
 obtain ⟨O,hO⟩:∃ O,O = sealL ⟨s.size,p,crcS (strL s),G,n⟩ (strL b):=⟨_,rfl⟩
 have hOl:O.length ≤ 30000:=by rw [hO,sealL_length,strL_length];omega
 have hOb:∀ x ∈ O,x < 256:=by rw [hO];exact sealL_lt hbl
 obtain ⟨C,hC⟩:∃ C,C = crcS (strL s):=⟨_,rfl⟩
 have hCl:C < 4294967296:=by rw [hC];exact crcS_lt _
 rw [← hO] at HBt
 have sl2:∀ (W:World),Calls Tryz.prog 14 #[.agg #[.int .u64 s.size,.int .u64 p,.int .u32 C,.int .u64 G,.int .u64 n],bstr b n] W fun e w' => e = .returned (.tuple #[.string (strOf O),.int .i64 0]) ∧ Below W.heap.size W w':=fun W => by
  refine Calls.mono (by have:=sl W;rw [← hC] at this;exact this) ?_
  rintro e w' ⟨h1,h2⟩
  have h0:=HSw.out
  rw [← hC] at h0
  rw [if_pos h0,h0,hC,← hO] at h1
  exact ⟨h1,h2⟩
 rw [← hC] at sm
 have HSl:=hide sl2
 have HSm:=hide (sm ((W2.alloc (.cells #[.string s] 9)).drew) W2.heap.size (((Bk.new W2 9 #[.string s]).cell 0).trans rfl))
 have HOl:=hide hOl
 have HOb:=hide hOb
 have hlt2:=k2.lt
 clear k2 hbe hW2 hg7 hG sl sm hbl hO hOl hOb hC sl2 HB1 HB2 HAl HBf HSw HR HEs hz1 hz2 HCo
 go_wp2_with fail
 obtain ⟨r0,r1⟩:=two_cells (show Bk W2.drew g7 27 #[.string b,.int .i64 n] from K2.out)
 obtain ⟨v0,v1⟩:=two_cells (show Bk ((W2.alloc (.cells #[.string s] 9)).drew) g7 27 #[.string b,.int .i64 n] from (K2.out.alloc _).drew)
 have u1:IntKind.u64.wrap (s.size:Int) = (s.size:Int):=by rw [IntKind.wrap_u64];omega
 have u2:IntKind.u64.wrap (p:Int) = (p:Int):=by rw [IntKind.wrap_u64];omega
 have u3:IntKind.u64.wrap (G:Int) = (G:Int):=by rw [IntKind.wrap_u64];omega
 have u4:IntKind.u64.wrap (n:Int) = (n:Int):=by rw [IntKind.wrap_u64];omega
 clear hs hCl n2
 go_region_held3 (fun w' => w'.cell? ⟨g7,0,none⟩ = some (.string b) ∧ w'.cell? ⟨g7,1,none⟩ = some (.int .i64 n))
  (first | with_reducible exact ⟨r0,r1⟩ | with_reducible exact ⟨v0,v1⟩ | with_reducible exact ⟨y0,y1⟩)
  (first
  | (go_at_call 18;refine (Calls.mono HSm.out ?_);rintro e w5 ⟨rfl,rfl⟩)
  | (go_at_call 14;refine (Calls.mono (HSl.out _) ?_);rintro e w6 ⟨rfl,hb6⟩;have hx:=two_cells (((K2.out.alloc (.cells #[.string s] 9)).drew).keep hb6);obtain ⟨y0,y1⟩:=hx;have HB6:=hide (((HBe.out.alloc HBe.out.size (.cells #[.string s] 9)).drew).trans (hb6.mono (by have:=HBe.out.size;simp;omega)));clear hb6))
 go_wp2_with fail
 go_ret2
 exact ⟨⟨O,rfl,HBt.out,HOl.out,HOb.out⟩,HB6.out⟩
theorem built_facts {t O:List Nat} (ht:∀ x ∈ t,x < 256) (hl:t.length ≤ 4096) (h:Built t O) (hO:O.length ≤ 30000) (hOb:∀ x ∈ O,x < 256) :
 openR O = (0,t) ∧ headW O = 0 ∧ partsW O = 0 ∧ (∃ es,IsEnds t es ∧ (fieldsL O).cnt = t.length ∧ (fieldsL O).prim = primL t es ∧ (fieldsL O).sum = crcS t ∧ (fieldsL O).segs = segsN t.length) ∧
 sealW (fieldsL O) (boxB O) (fieldsL O).bits = 0 ∧ sealL (fieldsL O) (strL (boxB O)) = O ∧ openR (O ++ [120]) = (6,[]) ∧ (fieldsL O).bits ≤ 1048576 ∧ (boxB O).size = O.length - 32 ∧ (fieldsL O).sum < 4294967296:=by
 have ho:=h.opened ht hl (by omega)
 have hw:=ho.1
 obtain ⟨h1,h2,h3,h4,c,h5,h6,h7,h8,h9⟩:=ho
 have hR:=openR_opened.2 (h.opened ht hl (by omega))
 have hp:partsW O = 0:=partsW_zero.2 ⟨h1,h2,h3⟩
 have hsb:=seal_back hOb h1
 have hbx:strL (boxB O) = (O.drop 28).take (O.length - 32):=strL_of (fun x hx => hOb x (List.mem_of_mem_drop (List.mem_of_mem_take hx)))
 have hbs:(boxB O).size = O.length - 32:=by
  rw [← strL_length,hbx,List.length_take,List.length_drop]
  have:=(headW_zero h1).1
  omega
 obtain ⟨es,b,N,he,hb,hO2⟩:=h
 have hpl:=prim_len he
 have hN:=hb.len
 have hNn:=hb.2.1
 have hcs:=crcS_lt t
 have hsg:=segsN_le (n:=t.length) (by omega)
 have hF:fieldsL O = ⟨t.length,primL t es,crcS t,segsN t.length,N⟩:=by
  rw [hO2]
  unfold sealL
  rw [List.append_assoc]
  exact fields_front _ (by show t.length < _;omega) (by show primL t es < _;omega) hcs (by show segsN t.length < _;omega) (by show N < _;omega)
 refine ⟨hR,hw,hp,⟨es,he,by rw [hF],by rw [hF],by rw [hF],by rw [hF]⟩, ?_,by rw [hbx];exact hsb.symm, ?_,h2,hbs,by rw [hF];exact hcs⟩
 · unfold sealW
   rw [if_pos (show rightB (boxB O) (fieldsL O).bits = true from h3),if_neg,if_neg (by omega)]
   rintro (g | g)
   · have h1:beyB (fieldsL O) = false:=by
      rw [hF]
      exact decide_eq_false (by show ¬ 1099511627776 ≤ max (max t.length (primL t es)) (segsN t.length);omega)
     rw [h1] at g;cases g
   · exact g rfl
 · have hm:headW (O ++ [120]) = 6:=by
    rw [hsb]
    exact headW_more (fun x hx => hOb x (List.mem_of_mem_drop (List.mem_of_mem_take hx))) (by rw [List.length_take];omega)
   have hpw:partsW (O ++ [120]) = 6:=by rw [partsW_head (by rw [hm];decide),hm]
   unfold openR
   rw [if_pos (by rw [hpw];decide),hpw]
end Go.Proofs.YtcfnjpokfodmoaaGreatDoor
