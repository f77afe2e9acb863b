/- Lemmas for the row: Lives31P, Lives31, AudLawP. -/
import Derived.Test.YtcfnjpokfodmoaaGreatDoorM37
import Derived.Test.YtcfnjpokfodmoaaGreatDoorM38
import Derived.Test.YtcfnjpokfodmoaaGreatDoorM41
import Derived.Test.YtcfnjpokfodmoaaGreatDoorM44
import Derived.Test.YtcfnjpokfodmoaaGreatDoorM45
set_option maxRecDepth 100000
set_option linter.unusedVariables false
namespace Go.Proofs.YtcfnjpokfodmoaaGreatDoor
open Go.RowKit
def aaaL:List Nat:=[97,97,97,97]
theorem aaa_ends:IsEnds aaaL [3,2,1,0]:=⟨by decide,by decide⟩
theorem aaa_lt:∀ x ∈ aaaL,x < 256:=by decide
theorem aaa_col:colL aaaL [3,2,1,0] = aaaL:=by decide +kernel
theorem aaa_stats:statsL aaaL = [[4,4,3,2,276,6]]:=by decide +kernel
theorem aaa_bits:(allL aaaL).length = 282:=by
 have:=stats_bits aaaL.length freshL aaaL
 rw [show statsB aaaL.length freshL aaaL = statsL aaaL from rfl,aaa_stats] at this
 rw [show allL aaaL = allB aaaL.length freshL aaaL from rfl,← this];rfl
theorem told_facts {t O es:List Nat} (ht:∀ x ∈ t,x < 256) (hl:t.length ≤ 4096) (h:Built t O) (hO:O.length ≤ 30000) (hOb:∀ x ∈ O,x < 256) (he:IsEnds t es) :
 openR O = (0,t) ∧ segsT O = some (statsL (colL t es)) ∧ four (fieldsL O) = [t.length,primL t es,segsN t.length,(allL (colL t es)).length]:=by
 obtain ⟨f1,f2,f3,⟨es',he',f4,f5,f6,f7⟩,_⟩:=built_facts ht hl h hO hOb
 obtain rfl:=he'.unique he
 obtain ⟨c,g1,g2,g3,g4,g5,g6,g7⟩:=opened_stats (openR_opened.1 f1)
 obtain ⟨q1,q2,q3⟩:=col_textB g6 he
 rw [← q2] at g5 g7
 have hb:=g5.2.1
 refine ⟨f1,g7, ?_⟩
 unfold four
 rw [f4,f5,f7]
 have:(fieldsL O).bits = (allL (colL t es')).length:=by omega
 rw [this]
theorem aaa_told {O:List Nat} (h:Built aaaL O) (hO:O.length ≤ 30000) (hOb:∀ x ∈ O,x < 256):openR O = (0,aaaL) ∧ segsT O = some [[4,4,3,2,276,6]] ∧ ∃ p,p < 1000 ∧ four (fieldsL O) = [4,p,1,282]:=by
 obtain ⟨h1,h2,h3⟩:=told_facts aaa_lt (by decide) h hO hOb aaa_ends
 rw [aaa_col] at h2 h3
 rw [aaa_stats] at h2
 rw [aaa_bits] at h3
 exact ⟨h1,h2,primL aaaL [3,2,1,0],by decide +kernel,h3⟩
theorem none_ends:IsEnds [] []:=⟨by decide,by decide⟩
theorem none_told {O:List Nat} (h:Built [] O) (hO:O.length ≤ 30000) (hOb:∀ x ∈ O,x < 256):openR O = (0,[]) ∧ segsT O = some [] ∧ four (fieldsL O) = [0,0,0,0]:=by
 obtain ⟨h1,h2,h3⟩:=told_facts (by simp) (by simp) h hO hOb none_ends
 exact ⟨h1,h2,h3⟩
theorem rep_none:strOf (repL [] [0,0,0,0]) = ⟨#[48,32,48,32,48,32,48,10]⟩:=by decide +kernel
theorem read_none:readL [49,32,50,10] = none:=by decide +kernel
theorem rep_aaa_read {p:Nat} (hp:p < 1000):readL (repL [[4,4,3,2,276,6]] [4,p,1,282]) = some ([[4,4,3,2,276,6]],[4,p,1,282]) :=
 read_rep (by simp) (by simp) (by intro n hn;simp at hn;omega)
theorem rep_aaa_len {p:Nat} (hp:p < 1000):(repL [[4,4,3,2,276,6]] [4,p,1,282]).length ≤ 2000:=by
 unfold repL
 have h1:=lines_len (ls:=[[4,4,3,2,276,6]]) (by simp)
 have h2:=joinL_len (l:=[4,p,1,282]) (by intro n hn;simp at hn;omega)
 unfold lineL at h1 ⊢
 rw [List.length_append,List.length_append]
 simp only [List.length_cons,List.length_nil] at h1 h2 ⊢
 omega
abbrev oneX:List (List Nat):=[[4,4,3,2,276,6]]
theorem seg_one {S:ByteArray} {q0 q1:Addr} {W:World} (hS:Sent2 W q0 q1) (hT:ErrT W) (h64:S.size ≤ 1000000) (ho:(openR (strL S)).1 = 0) (hs:segsT (strL S) = some oneX) :
 Calls Tryz.prog 26 #[.string S] W fun e w' => (∃ b o k,e = .returned (.tuple #[.slice (some ⟨b,o,none⟩) 1 k,.int .i64 0]) ∧ Rd w' w'.heap.size (some ⟨b,o,none⟩) (flat6 oneX)) ∧ Below W.heap.size W w':=by
 refine Calls.mono (segments_any S q0 q1 W hS hT h64) ?_
 rintro e w' ⟨h | ⟨_,A,k,ls,h1,rfl,h2,h3⟩,hb⟩
 · exact absurd ho h.1
 · obtain rfl:ls = oneX:=(Option.some.inj (hs.symm.trans h1)).symm
   obtain ⟨b,o,rfl,_,_⟩:=h2 0 (.int .i64 4) rfl
   exact ⟨⟨b,o,k,rfl,h2⟩,hb⟩
theorem rep_of {S:ByteArray} {q0 q1:Addr} {W:World} {ls:List (List Nat)} {f:List Nat} (hS:Sent2 W q0 q1) (hT:ErrT W) (hP:Pow10 W) (h64:S.size ≤ 1000000) (ho:(openR (strL S)).1 = 0) (hs:segsT (strL S) = some ls) (hf:four (fieldsL (strL S)) = f) :
 Calls Tryz.prog 27 #[.string S] W fun e w' => e = .returned (.tuple #[.string (strOf (repL ls f)),.int .i64 0]) ∧ Below W.heap.size W w':=by
 refine Calls.mono (report_any S q0 q1 W hS hT hP h64) ?_
 rintro e w' ⟨h | ⟨_,ls',h1,rfl⟩,hb⟩
 · exact absurd ho h.1
 · obtain rfl:ls' = ls:=(Option.some.inj (hs.symm.trans h1)).symm
   rw [hf];exact ⟨rfl,hb⟩
theorem rd_of {R:ByteArray} {W:World} {p:Nat} (hR:R.size ≤ 1048576) (h:readL (strL R) = some (oneX,[4,p,1,282])) :
 Calls Tryz.prog 22 #[.string R] W fun e w' => (∃ b o k,e = .returned (.tuple #[.slice (some ⟨b,o,none⟩) 1 k,.agg #[.int .u64 4,.int .u64 p,.int .u32 0,.int .u64 1,.int .u64 282],.int .i64 0]) ∧ Rd w' w'.heap.size (some ⟨b,o,none⟩) (flat6 oneX)) ∧ Below W.heap.size W w':=by
 refine Calls.mono (aread_any R W hR) ?_
 rintro e w' ⟨h' | ⟨A,c,ls,hh,h1,h2,h3,h4,rfl,h5⟩,hb⟩
 · rw [h] at h';cases h'.1
 · rw [h] at h1
   obtain ⟨rfl,rfl⟩:=Prod.mk.inj (Option.some.inj h1)
   obtain ⟨b,o,rfl,_,_⟩:=h5 0 (.int .i64 4) rfl
   exact ⟨⟨b,o,c,rfl,h5⟩,hb⟩
theorem rd_bad {R:ByteArray} {W:World} (hR:R.size ≤ 1048576) (h:readL (strL R) = none) :
 Calls Tryz.prog 22 #[.string R] W fun e w' => e = .returned (.tuple #[.slice none 0 0,.agg #[.int .u64 0,.int .u64 0,.int .u32 0,.int .u64 0,.int .u64 0],.int .i64 2]) ∧ Below W.heap.size W w':=by
 refine Calls.mono (aread_any R W hR) ?_
 rintro e w' ⟨⟨_,rfl⟩ | ⟨A,c,ls,hh,h1,_⟩,hb⟩
 · exact ⟨rfl,hb⟩
 · rw [h] at h1;cases h1
theorem cells_one {w:World} {B b o:Nat} (h:Rd w B (some ⟨b,o,none⟩) (flat6 oneX)):(w.cell? ⟨b,o,none⟩ = some (.int .i64 4) ∧ w.cell? ⟨b,o + 1,none⟩ = some (.int .i64 4) ∧ w.cell? ⟨b,o + 2,none⟩ = some (.int .i64 3) ∧ w.cell? ⟨b,o + 3,none⟩ = some (.int .i64 2) ∧ w.cell? ⟨b,o + 4,none⟩ = some (.int .i64 276) ∧ w.cell? ⟨b,o + 5,none⟩ = some (.int .i64 6)):=by
 have g:=fun (i:Nat) (u:Value) (hu:(flat6 oneX)[i]? = some u) => show w.cell? ⟨b,o + i,none⟩ = some u from by
  obtain ⟨b2,o2,e,_,hc⟩:=h i u hu
  simp only [Option.some.injEq,Addr.mk.injEq,and_true] at e
  obtain ⟨rfl,rfl⟩:=e
  exact hc
 exact ⟨g 0 _ rfl,g 1 _ rfl,g 2 _ rfl,g 3 _ rfl,g 4 _ rfl,g 5 _ rfl⟩
set_option maxHeartbeats 8000000 in
theorem lives31 (q0 q1:Addr) (w:World) (hS:Sent2 w q0 q1) (hT:ErrT w) (hP:Pow10 w):Calls Tryz.prog 24 #[] w fun e w' => e = .returned (.bool true) ∧ Below w.heap.size w w':=by
 have hsz:=hT.lt
 have b1:=build_any ⟨#[97,97,97,97]⟩ w (by decide)
 have haaa:strL ⟨#[97,97,97,97]⟩ = aaaL:=by decide +kernel
 rw [haaa] at b1
 have bS:=fun (S:ByteArray) (W:World) (hW:Below w.heap.size w W) (h64:S.size ≤ 1000000) (ho:(openR (strL S)).1 = 0) (hs:segsT (strL S) = some oneX) => seg_one (hS.below hW (Nat.le_refl _)) (hT.keep hW) h64 ho hs
 have bR:=fun (S:ByteArray) (W:World) (ls:List (List Nat)) (f:List Nat) (hW:Below w.heap.size w W) (h64:S.size ≤ 1000000) (ho:(openR (strL S)).1 = 0) (hs:segsT (strL S) = some ls) (hf:four (fieldsL (strL S)) = f) => rep_of (hS.below hW (Nat.le_refl _)) (hT.keep hW) (hP.below hW) h64 ho hs hf
 have bH:=fun (S t:ByteArray) (W:World) (hW:Below w.heap.size w W) (h64:S.size ≤ 1000000) => aholds_any S t q0 q1 W (hS.below hW (Nat.le_refl _)) (hT.keep hW) h64
 have hBe:∀ (W:World),Calls Tryz.prog 28 #[.string ⟨#[97,97,97,97]⟩] W fun e w' => e = .returned (.tuple #[.int .i64 282,.int .i64 0]) ∧ Below W.heap.size W w':=fun W => by
  refine Calls.mono (best_any ⟨#[97,97,97,97]⟩ W (by decide)) ?_
  rintro e w' ⟨⟨es,he,rfl⟩,hb⟩
  rw [haaa] at he ⊢
  obtain rfl:=he.unique aaa_ends
  rw [aaa_col,aaa_bits]
  exact ⟨rfl,hb⟩
 have hE:∀ (W:World),Below w.heap.size w W → Calls Tryz.prog 12 #[.string ⟨#[]⟩] W fun e w' => (∃ E:ByteArray,e = .returned (.tuple #[.string E,.int .i64 0]) ∧ Hid (∀ W2,Below w.heap.size w W2 → Calls Tryz.prog 27 #[.string E] W2 fun e w' => e = .returned (.tuple #[.string ⟨#[48,32,48,32,48,32,48,10]⟩,.int .i64 0]) ∧ Below W2.heap.size W2 w')) ∧ Below W.heap.size W w':=fun W hW => by
  have h:=build_any ⟨#[]⟩ W (by decide)
  rw [show strL ⟨#[]⟩ = [] from rfl] at h
  refine Calls.mono h ?_
  rintro e w' ⟨⟨O,rfl,hbt,hOl,hOb⟩,hb⟩
  obtain ⟨f1,f2,f3⟩:=none_told hbt hOl hOb
  have hst:strL (strOf O) = O:=strL_of hOb
  have hss:(strOf O).size = O.length:=strOf_size O
  refine ⟨⟨strOf O,rfl,hide fun W2 hW2 => ?_⟩,hb⟩
  have:=bR (strOf O) W2 [] [0,0,0,0] hW2 (by omega) (by rw [hst,f1]) (by rw [hst];exact f2) (by rw [hst];exact f3)
  rw [rep_none] at this
  exact this
 have hBad:∀ (W:World),Calls Tryz.prog 22 #[.string ⟨#[49,32,50,10]⟩] W fun e w' => e = .returned (.tuple #[.slice none 0 0,.agg #[.int .u64 0,.int .u64 0,.int .u32 0,.int .u64 0,.int .u64 0],.int .i64 2]) ∧ Below W.heap.size W w':=fun W => rd_bad (by decide) read_none
 have HBE:=hide hBe
 have HE:=hide hE
 have HBad:=hide hBad
 clear hBe hE hBad
 have HB1:=hide b1
 have HbS:=hide bS
 have HbR:=hide bR
 have HbH:=hide bH
 clear b1 bS bR bH hS hT hP
 go_enter Tryz.func24,Tryz.ntmps24
 go_upto_region 2 with (go_at_call 12;refine (Calls.mono HB1.out ?_);rintro e w1 ⟨⟨O,rfl,hbt,hOl,hOb⟩,hbe⟩;have HBt:=hide hbt;have HOl:=hide hOl;have HOb:=hide hOb;have HBe:=hide hbe;clear hbt hOl hOb hbe)
 obtain ⟨f1,f2,p,hp,f3⟩:=aaa_told HBt.out HOl.out HOb.out
 have hst:strL (strOf O) = O:=strL_of HOb.out
 have hss:(strOf O).size = O.length:=strOf_size O
 have hO1:=HOl.out
 obtain ⟨S,hSe⟩:∃ S,S = strOf O:=⟨_,rfl⟩
 rw [← hSe] at hst hss ⊢
 rw [← hst] at f1 f2 f3
 have sg:=fun (W:World) (hW:Below w.heap.size w W) => HbS.out S W hW (by omega) (by rw [f1]) f2
 have rp:=fun (W:World) (hW:Below w.heap.size w W) => HbR.out S W _ _ hW (by omega) (by rw [f1]) f2 f3
 have ho:=fun (W:World) (hW:Below w.heap.size w W) => HbH.out S ⟨#[97,97,97,97]⟩ W hW (by omega)
 rw [haaa,f1,decide_eq_true rfl] at ho
 have hrr:readL (repL oneX [4,p,1,282]) = some (oneX,[4,p,1,282]):=rep_aaa_read hp
 have hrl:(repL oneX [4,p,1,282]).length ≤ 2000:=rep_aaa_len hp
 have hrs:strL (strOf (repL oneX [4,p,1,282])) = repL oneX [4,p,1,282]:=strL_of (repL_lt _ _)
 have hrz:(strOf (repL oneX [4,p,1,282])).size = (repL oneX [4,p,1,282]).length:=strOf_size _
 obtain ⟨R,hRe⟩:∃ R,R = strOf (repL oneX [4,p,1,282]):=⟨_,rfl⟩
 rw [← hRe] at rp hrs hrz
 have rd:=fun (W:World) => rd_of (R:=R) (W:=W) (p:=p) (by omega) (by rw [hrs];exact hrr)
 have HSg:=hide sg
 have HRp:=hide rp
 have HHo:=hide ho
 have HRd:=hide rd
 clear sg rp ho rd hrr hrl hrs hrz hRe hst hss hO1 hSe f1 f2 f3 hp HbS HbR HbH HB1 HBt HOl HOb haaa
 go_upto_region 3 with (go_at_call 26;refine (Calls.mono (HSg.out _ HBe.out) ?_);rintro e w2 ⟨⟨b,o,k,rfl,hr⟩,hb⟩;have HR2:=hide hr;have HB2:=hide (HBe.out.trans (hb.mono HBe.out.size));clear hb hr HBe)
 go_upto_region 4 with (go_at_call 27;refine (Calls.mono (HRp.out _ HB2.out) ?_);rintro e w3 ⟨rfl,hb⟩;have HR3:=hide ((HR2.out.below hb).more hb.size);have HB3:=hide (HB2.out.trans (hb.mono HB2.out.size));clear hb HR2 HB2)
 go_upto_region 5 with (go_at_call 22;refine (Calls.mono (HRd.out _) ?_);rintro e w4 ⟨⟨b2,o2,k2,rfl,hm⟩,hb⟩;have HM4:=hide hm;have HR4:=hide ((HR3.out.below hb).more hb.size);have HB4:=hide (HB3.out.trans (hb.mono HB3.out.size));clear hb hm HR3 HB3)
 have k5:Bk (w4.alloc (.cells #[.int .u64 4,.int .u64 p,.int .u32 0,.int .u64 1,.int .u64 282] 25)) w4.heap.size 25 #[.int .u64 4,.int .u64 p,.int .u32 0,.int .u64 1,.int .u64 282]:=Bk.new w4 _ _
 have hr5:=(HR4.out.alloc (Nat.le_refl _) (.cells #[.int .u64 4,.int .u64 p,.int .u32 0,.int .u64 1,.int .u64 282] 25)).more (B':=(w4.alloc (.cells #[.int .u64 4,.int .u64 p,.int .u32 0,.int .u64 1,.int .u64 282] 25)).heap.size) (by simp)
 have hm5:=(HM4.out.alloc (Nat.le_refl _) (.cells #[.int .u64 4,.int .u64 p,.int .u32 0,.int .u64 1,.int .u64 282] 25)).more (B':=(w4.alloc (.cells #[.int .u64 4,.int .u64 p,.int .u32 0,.int .u64 1,.int .u64 282] 25)).heap.size) (by simp)
 have be5:=HB4.out.alloc HB4.out.size (.cells #[.int .u64 4,.int .u64 p,.int .u32 0,.int .u64 1,.int .u64 282] 25)
 obtain ⟨g,hg⟩:∃ g,g = w4.heap.size:=⟨_,rfl⟩
 rw [← hg] at k5 ⊢
 obtain ⟨W5,hW5⟩:∃ W,W = w4.alloc (.cells #[.int .u64 4,.int .u64 p,.int .u32 0,.int .u64 1,.int .u64 282] 25):=⟨_,rfl⟩
 rw [← hW5] at k5 hr5 hm5 be5 ⊢
 have K5:=hide k5
 have HR5:=hide hr5
 have HM5:=hide hm5
 have HB5:=hide be5
 clear k5 hr5 hm5 be5 hW5 hg HR4 HM4 HB4
 go_upto_region 6 with (go_at_call 28;refine (Calls.mono (HBE.out _) ?_);rintro e w6 ⟨rfl,hb⟩;have K6:=hide (K5.out.keep hb);have HM6:=hide ((HM5.out.below hb).more hb.size);have HR6:=hide ((HR5.out.below hb).more hb.size);have HB6:=hide (HB5.out.trans (hb.mono HB5.out.size));clear hb HM5 HR5 HB5 K5)
 go_upto_region 7 with (go_at_call 12;refine (Calls.mono (HE.out _ HB6.out) ?_);rintro e w7 ⟨⟨E,rfl,HRE⟩,hb⟩;have K7:=hide (K6.out.keep hb);have HM7:=hide ((HM6.out.below hb).more hb.size);have HR7:=hide ((HR6.out.below hb).more hb.size);have HB7:=hide (HB6.out.trans (hb.mono HB6.out.size));clear hb HM6 HR6 HB6 K6)
 go_upto_region 8 with (go_at_call 27;refine (Calls.mono (HRE.out _ HB7.out) ?_);rintro e w8 ⟨rfl,hb⟩;have K8:=hide (K7.out.keep hb);have HM8:=hide ((HM7.out.below hb).more hb.size);have HR8:=hide ((HR7.out.below hb).more hb.size);have HB8:=hide (HB7.out.trans (hb.mono HB7.out.size));clear hb HM7 HR7 HB7 K7)
 go_upto_region 9 with (go_at_call 22;refine (Calls.mono (HBad.out _) ?_);rintro e w9 ⟨rfl,hb⟩;have K9:=hide (K8.out.keep hb);have HM9:=hide ((HM8.out.below hb).more hb.size);have HR9:=hide ((HR8.out.below hb).more hb.size);have HB9:=hide (HB8.out.trans (hb.mono HB8.out.size));clear hb HM8 HR8 HB8 K8)
 have k10:=K9.out.alloc (.cells #[.int .u64 0,.int .u64 0,.int .u32 0,.int .u64 0,.int .u64 0] 25)
 have hr10:=(HR9.out.alloc (Nat.le_refl _) (.cells #[.int .u64 0,.int .u64 0,.int .u32 0,.int .u64 0,.int .u64 0] 25)).more (B':=(w9.alloc (.cells #[.int .u64 0,.int .u64 0,.int .u32 0,.int .u64 0,.int .u64 0] 25)).heap.size) (by simp)
 have hm10:=(HM9.out.alloc (Nat.le_refl _) (.cells #[.int .u64 0,.int .u64 0,.int .u32 0,.int .u64 0,.int .u64 0] 25)).more (B':=(w9.alloc (.cells #[.int .u64 0,.int .u64 0,.int .u32 0,.int .u64 0,.int .u64 0] 25)).heap.size) (by simp)
 have be10:=HB9.out.alloc HB9.out.size (.cells #[.int .u64 0,.int .u64 0,.int .u32 0,.int .u64 0,.int .u64 0] 25)
 obtain ⟨W10,hW10⟩:∃ W,W = w9.alloc (.cells #[.int .u64 0,.int .u64 0,.int .u32 0,.int .u64 0,.int .u64 0] 25):=⟨_,rfl⟩
 rw [← hW10] at k10 hr10 hm10 be10 ⊢
 obtain ⟨c0,c1,c2,c3,c4,c5⟩:=cells_one hr10
 have sm:Calls Tryz.prog 25 #[.slice (some ⟨b,o,none⟩) 1 k,.slice (some ⟨b2,o2,none⟩) 1 k2] W10 fun e w' => e = .returned (.bool true) ∧ ∃ n,w' = W10.drewN n:=by
  have:=same31_any (some ⟨b,o,none⟩) (some ⟨b2,o2,none⟩) k k2 oneX oneX W10 hr10 hm10 (by decide) (by decide) (by decide)
  rw [decide_eq_true rfl] at this
  exact this
 obtain ⟨⟨d0,d1,d2,d3,d4⟩,_⟩:=five_cells k10
 have HSm:=hide sm
 have HB10:=hide be10
 clear sm k10 hr10 hm10 be10 hW10 K9 HR9 HM9 HB9
 go_wp2_with (first
  | (go_at_call 25;refine (Calls.mono HSm.out ?_);rintro e w11 ⟨rfl,n,rfl⟩)
  | (go_at_call 29;refine (Calls.mono (HHo.out _ (below_drewN HB10.out n)) ?_);rintro e w12 ⟨rfl,hb⟩;have HB12:=hide ((below_drewN HB10.out n).trans (hb.mono HB10.out.size));clear hb))
 go_ret
 exact ⟨rfl,HB12.out⟩
theorem readF_len:∀ (f:Nat) (acc:List (List Nat)) (r:List Nat) (ls:List (List Nat)) (h:List Nat),readF f acc r = some (ls,h) → ls.length ≤ acc.length + r.length:=by
 intro f
 induction f with
 | zero => intro acc r ls h e;cases e
 | succ f ih =>
   intro acc r ls h e
   rw [readF] at e
   cases hc:cutN r with
   | none => rw [hc] at e;cases e
   | some p =>
     obtain ⟨s,t⟩:=p
     have hl:=cutN_len hc
     rw [hc] at e
     simp only [] at e
     cases hn:numsL s with
     | none => rw [hn] at e;cases e
     | some l =>
       rw [hn] at e
       simp only [] at e
       split at e
       · cases e;omega
       · split at e
         · have:=ih _ _ _ _ e
           rw [List.length_append] at this
           simp only [List.length_cons,List.length_nil] at this
           omega
         · cases e
theorem readL_len {r:List Nat} {ls:List (List Nat)} {h:List Nat} (e:readL r = some (ls,h)):ls.length ≤ r.length:=by
 have:=readF_len _ _ _ _ _ e
 simpa using this
theorem opened_all {s t:List Nat} (h:openR s = (0,t)):∃ ls,segsT s = some ls ∧ (∀ x ∈ ls,goodS x) ∧ (∀ i,i + 1 < ls.length → ∃ x,ls[i]? = some x ∧ x.getD 0 0 = 512) ∧ sumK 0 ls = (fieldsL s).cnt ∧ sumK 4 ls + sumK 5 ls = (fieldsL s).bits ∧ ls.length = (fieldsL s).segs ∧ headW s = 0 ∧ ls.length ≤ 8 ∧ (fieldsL s).cnt ≤ 4096 ∧ (fieldsL s).bits ≤ 1048576:=by
 have ho:=openR_opened.1 h
 obtain ⟨c,g1,g2,g3,g4,g5,g6,g7⟩:=opened_stats ho
 have hb:=g5.2.1
 have hw:=ho.1
 have h1:=stats_good c.length freshL c (Nat.le_refl _) fresh_ok g1
 have h2:=stats_bytes c.length freshL c (Nat.le_refl _) fresh_ok g1
 have h3:=stats_bits c.length freshL c
 have h4:=statsB_len c.length freshL c (Nat.le_refl _)
 have h5:=allL_len g1 g2
 have e4:(statsL c).length = segsN c.length:=h4
 have e8:segsN c.length ≤ 8:=by unfold segsN;omega
 have e3:sumK 4 (statsL c) + sumK 5 (statsL c) = (allL c).length:=h3
 have e2:sumK 0 (statsL c) = c.length:=h2
 exact ⟨statsL c,g7,h1.1,h1.2,by omega,by omega,by omega,hw,by omega,by omega,by omega⟩
theorem good_lt {x:List Nat} (h:goodS x):x.length = 6 ∧ ∀ n ∈ x,n < 1000000000000000:=by
 obtain ⟨a,b,c,d,e,f,rfl,_⟩:=h
 refine ⟨rfl,fun n hn => ?_⟩
 simp at hn
 omega
theorem rep_ne (ls:List (List Nat)) (h:List Nat):0 < (repL ls h).length:=by unfold repL lineL;simp;omega
theorem rep_take (ls:List (List Nat)) (h:List Nat):(repL ls h).take ((repL ls h).length - 1) = ls.flatMap lineL ++ joinL h:=by
 have e:repL ls h = (ls.flatMap lineL ++ joinL h) ++ [10]:=by unfold repL;rw [show lineL h = joinL h ++ [10] from rfl,List.append_assoc]
 rw [e,List.length_append]
 simp only [List.length_cons,List.length_nil,Nat.add_sub_cancel]
 rw [List.take_left]
theorem rep_cut {ls:List (List Nat)} {h:List Nat} (hl:∀ l ∈ ls,l.length = 6 ∧ ∀ n ∈ l,n < 1000000000000000):readL ((repL ls h).take ((repL ls h).length - 1)) = none:=by
 rw [rep_take];exact readF_cut hl
theorem eql_head (x0 x1 x2 x3 x4:Nat) (w:World):(binOp .eql 25 (.agg #[.int .u64 x0,.int .u64 x1,.int .u32 x2,.int .u64 x3,.int .u64 x4]) (.agg #[.int .u64 x0,.int .u64 x1,.int .u32 x2,.int .u64 x3,.int .u64 x4])).run Tryz.prog w = .ok (.bool true) w:=by
 have hS:Tryz.prog.underlying 25 = some (.struct (Tryz.prog.fieldsOf 25)):=by kernel_rfl
 have hp:Tryz.prog.stoodInHeld 25 = false:=by kernel_rfl
 rw [run_eql_struct,show (10000:Nat) = 9999 + 1 from rfl,run_equalIn_agg w 9999 25 _ _ hS hp]
 simp only [Program.fieldsOf,Tryz.underlying25]
 go_simp
theorem guard_head:Tryz.prog.eqGuardType Tryz.prog.depth 25 = false:=by kernel_rfl
theorem rd_form {s:List Nat} {w w':World} {e:Ending} (h:RdP s w e w'):∃ A c ls x0 x1 x2 x3 x4 z,(∀ r,readL s = r → (ls,x0,x1,x2,x3,x4,z) = (match r with | none => ([],0,0,0,0,0,2) | some (ls,h) => (ls,h.getD 0 0,h.getD 1 0,0,h.getD 2 0,h.getD 3 0,0))) ∧ (∀ l ∈ ls,l.length = 6) ∧ ls.length ≤ s.length ∧ e = .returned (.tuple #[.slice A ls.length c,.agg #[.int .u64 (x0:Nat),.int .u64 (x1:Nat),.int .u32 (x2:Nat),.int .u64 (x3:Nat),.int .u64 (x4:Nat)],.int .i64 (z:Nat)]) ∧ Rd w' w'.heap.size A (flat6 ls) ∧ Below w.heap.size w w':=by
 obtain ⟨⟨h1,rfl⟩ | ⟨A,c,ls,h,h1,h2,h3,h4,rfl,h5⟩,hb⟩:=h
 · exact ⟨none,0,[],0,0,0,0,0,2,fun r hr => by rw [h1] at hr;subst hr;rfl,by simp,by simp,rfl,Rd.nil_,hb⟩
 · exact ⟨A,c,ls,h.getD 0 0,h.getD 1 0,0,h.getD 2 0,h.getD 3 0,0,fun r hr => by rw [h1] at hr;subst hr;rfl,h4,readL_len h1,rfl,h5,hb⟩
end Go.Proofs.YtcfnjpokfodmoaaGreatDoor
