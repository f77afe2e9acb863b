/- Lemmas for the row: SegWrite, SegAll, SegBack. -/
import Derived.Test.YtcfnjpokfodmoaaGreatDoorM01
import Derived.Test.YtcfnjpokfodmoaaGreatDoorM03
import Derived.Test.YtcfnjpokfodmoaaGreatDoorM04
import Derived.Test.YtcfnjpokfodmoaaGreatDoorM09
import Derived.Test.YtcfnjpokfodmoaaGreatDoorM10
import Derived.Test.YtcfnjpokfodmoaaGreatDoorM13
set_option maxRecDepth 100000
set_option linter.unusedVariables false
namespace Go.Proofs.YtcfnjpokfodmoaaGreatDoor
open Go.RowKit
theorem Rd.frB {w w':World} {S:Nat → Prop} {B:Nat} {A:Option Addr} {xs:List Value} (h:Rd w B A xs) (hf:Fr S w w') (hS:∀ a,A = some a → a.block < B → ¬ S a.block):Rd w' B A xs:=fun i u hu => by
 obtain ⟨b,o,e,hb,hc⟩:=h i u hu
 exact ⟨b,o,e,hb,hf.cell (p:=⟨b,o + i,none⟩) (hS ⟨b,o,none⟩ e hb) hc⟩
theorem codes_len {ls:List Int}:∀ {l:List Nat},(∀ x ∈ l,∃ n:Nat,ls[x]? = some (n:Int) ∧ 1 ≤ n ∧ n ≤ 15) → (l.flatMap (codeB ls)).length ≤ 15 * l.length:=by
 intro l
 induction l with
 | nil => intro _;simp
 | cons x l ih =>
   intro h
   obtain ⟨n,h1,h2,h3⟩:=h x (by simp)
   have:=ih (fun y hy => h y (List.mem_cons_of_mem _ hy))
   rw [List.flatMap_cons,List.length_append,codeB_length h1,List.length_cons]
   omega
set_option maxHeartbeats 4000000 in
theorem write_any (p pw:Nat) (t:TypeId) (row:List Nat) (rw:Option Nat) (l0:List Bool) (s:ByteArray) (w:World) (hr:RowOK row) (h:Bk w p t (vby row).toArray) (hW:Wr w pw rw l0) (hne:p ≠ pw) (hrow:rw ≠ some p) (hs:s.size ≤ 65536) (hl0:l0.length ≤ 1048576) :
 Calls Tryz.prog 62 #[.pointer (some ⟨p,0,none⟩),.pointer (some ⟨pw,0,none⟩),.string s] w fun e w' => e = .returned (.tuple #[]) ∧ ∃ row',Wr w' pw row' (l0 ++ segBits (encZ 0 (toL row (strL s)).1)) ∧ rowNew w rw row' ∧ Bk w' p t (vby (toL row (strL s)).2).toArray ∧ Fr (fun g => g = p ∨ wS pw rw g) w w':=by
 have hok:=toL_ok hr (strL_lt s)
 have sy:=symbols_any p t row s w hr h hs
 obtain ⟨L,hL⟩:∃ L,L = encZ 0 (toL row (strL s)).1:=⟨_,rfl⟩
 obtain ⟨R,hR⟩:∃ R,R = (toL row (strL s)).2:=⟨_,rfl⟩
 have hLl:L.length ≤ 65537:=by rw [hL];have:=encZ_snoc_len (toL row (strL s)).1 0;rw [hok.2.2,strL_length] at this;omega
 have hx258:∀ x ∈ L,x < 258:=fun x hx => by rw [hL] at hx;have:=encZ_sym 0 hok.2.1 x hx;omega
 have hcod:∀ x ∈ L,∃ n:Nat,(lensL L)[x]? = some (n:Int) ∧ 1 ≤ n ∧ n ≤ 15:=fun x hx => seg_has hx (hx258 x hx)
 have hplt:=h.lt
 have hwlt:=hW.lt
 rw [← hL,← hR] at sy ⊢
 have HSy:=hide sy
 have HCod:=hide hcod
 have HX:=hide hx258
 have HOk:=hide (seg_ok L)
 have HTl:=hide (tabBits_length_le (seg_ok L))
 have HWr:=hide hW
 have HWl:=hide hwlt
 have HNe:=hide hne
 have HRow:=hide hrow
 have hll:=lensL_length L
 have hwl:=weightsL_length L
 have wt:=fun (A:Option Addr) (c:Nat) (W:World) (hA:Rd W W.heap.size A (L.map u64V)) => weights_any A L c W hA (by omega) hx258
 have ln:=fun (A:Option Addr) (c:Nat) (W:World) (hA:Rd W W.heap.size A ((weightsL L).map (.int .u64))) => lengths_yes A (weightsL L) c 15 W hA (by rw [hwl];decide) (fun x hx => (weightsL_mem hx).1) (by unfold I64;omega) (seg_packW (by omega))
 have of:=fun (A:Option Addr) (c:Nat) (W:World) (hA:Rd W W.heap.size A ((lensL L).map (.int .i64))) => of_new A (lensL L) c W hA (by rw [hll];decide)
 have ta:=fun (A:Option Addr) (c:Nat) (W:World) (hWr:Wr W pw rw l0) (hA:Rd W W.heap.size A ((lensL L).map (.int .i64))) (h0:∀ a,A = some a → a.block ≠ pw ∧ rw ≠ some a.block) => tadd2_any pw rw l0 A (lensL L) c W hWr hA h0 (seg_ok L) (by rw [hll];decide) hl0
 rw [hwl] at ln
 rw [hll] at of ta
 have HWt:=hide wt
 have HLn:=hide ln
 have HOf:=hide of
 have HTa:=hide ta
 have HLL:=hide hll
 clear hr h hW hok sy hL hR hx258 hcod wt ln of ta hll hwl hwlt hne hrow
 go_enter Tryz.func62,Tryz.ntmps62
 go_wp2_with (first
  | (go_at_call 101;refine (Calls.mono HSy.out ?_);rintro e w1 ⟨A1,c1,rfl,hr1,ha1,hb1,hf1⟩;have HR1:=hide hr1;have HA1:=hide ha1;have HB1:=hide hb1;have HF1:=hide hf1;have hz1:=hf1.size;clear hr1 ha1 hb1 hf1)
  | (go_at_call 90;refine (Calls.mono (HWt.out A1 c1 w1 HR1.out) ?_);rintro e w2 ⟨g2,rfl,hg2,hb2,hf2⟩;have HB2:=hide hb2;have HF2:=hide hf2;have hz2:=hf2.size;clear hb2 hf2)
  | (go_at_call 89;refine (Calls.mono (HLn.out (some ⟨g2,0,none⟩) 258 w2 (bkRd HB2.out)) ?_);rintro e w3 ⟨⟨A3,c3,rfl,hr3,ha3⟩,hf3⟩;have HR3:=hide (show Rd w3 w3.heap.size A3 ((lensL L).map (.int .i64)) from hr3);have HA3:=hide ha3;have HF3:=hide hf3;have hz3:=hf3.size;clear hr3 ha3 hf3)
  | (go_at_call 102;refine (Calls.mono (HTa.out A3 c3 w3 (by
      exact ((HWr.out.fr HF1.out (fun e => HNe.out e.symm) (fun g hg e => HRow.out (by rw [hg,e]))).below HF2.out).below HF3.out) HR3.out (fun a ha => by
       have h3:=HA3.out a ha
       have h4:=HWl.out.1
       refine ⟨by omega,fun e => ?_⟩
       have:=HWl.out.2 _ e
       omega)) ?_);rintro e w4 ⟨rfl,row4,hw4,hn4,hf4⟩;have HW4:=hide hw4;have HN4:=hide hn4;have HF4:=hide hf4;have hz4:=hf4.size;clear hw4 hn4 hf4)
  | (go_at_call 86;refine (Calls.mono (HOf.out A3 c3 w4 (by
      exact HR3.out.frA HF4.out (fun a ha hl hs => by
       have h3:=HA3.out a ha
       rcases hs with hs | hs
       · have h4:=HWl.out.1;omega
       · have:=HWl.out.2 _ hs;omega))) ?_);rintro e w5 ⟨p5,rfl,hb5,hf5⟩;have HB5:=hide hb5;have HF5:=hide hf5;have hz5:=hf5.size;clear hb5 hf5))
 -- what stands behind the book's making
 have hrow4:∀ g,row4 = some g → (rw = some g ∨ w3.heap.size ≤ g) ∧ g < w4.heap.size:=fun g hg => ⟨by
  rcases HN4.out with e | ⟨g',e,hg'⟩
  · exact .inl (by rw [← e,hg])
  · rw [e] at hg;cases hg;exact .inr hg',HW4.out.lt.2 g hg⟩
 have HR4:=hide hrow4
 have hwl:=HWl.out
 have hfarA1:∀ a,A1 = some a → a.block < w1.heap.size → ¬ wS pw row4 a.block:=fun a ha hl hs => by
  have h1:=HA1.out a ha
  rcases hs with hs | hs
  · omega
  · rcases (HR4.out _ hs).1 with e | e
    · have:=hwl.2 _ e;omega
    · omega
 have hfarA3:∀ a,A3 = some a → a.block < w3.heap.size → ¬ wS pw row4 a.block:=fun a ha hl hs => by
  have h1:=HA3.out a ha
  rcases hs with hs | hs
  · omega
  · rcases (HR4.out _ hs).1 with e | e
    · have:=hwl.2 _ e;omega
    · omega
 have hfarB:∀ g,w4.heap.size ≤ g → g < w5.heap.size → ¬ wS pw row4 g:=fun g h1 h2 hs => by
  rcases hs with hs | hs
  · omega
  · have:=(HR4.out _ hs).2;omega
 have hnotp:¬ wS pw row4 p:=fun hs => by
  rcases hs with hs | hs
  · exact HNe.out hs
  · rcases (HR4.out _ hs).1 with e | e
    · exact HRow.out e
    · omega
 have hr15:Rd w5 w1.heap.size A1 (L.map u64V):=by
  have h2:=HR1.out.below HF2.out
  have h3:=h2.keep (w':=w3) fun q hq => HF3.out.cell (by omega)
  have h4:=h3.frB HF4.out (fun a ha hl hs => by
   have h1:=HA1.out a ha
   rcases hs with hs | hs
   · omega
   · have:=hwl.2 _ hs;omega)
  exact h4.keep fun q hq => HF5.out.cell (by omega)
 have hr35:Rd w5 w3.heap.size A3 ((lensL L).map (.int .i64)):=by
  have h4:=HR3.out.frB HF4.out (fun a ha hl hs => by
   have h1:=HA3.out a ha
   rcases hs with hs | hs
   · omega
   · have:=hwl.2 _ hs;omega)
  exact h4.keep fun q hq => HF5.out.cell (by omega)
 have hb5p:Bk w5 p t (vby R).toArray:=(((((HB1.out.below HF2.out (by omega)).below HF3.out (by omega)).fr HF4.out (fun hs => by
  rcases hs with hs | hs
  · exact HNe.out hs
  · exact HRow.out hs))).below HF5.out (by omega))
 have hw5:=HW4.out.below HF5.out
 have HR15:=hide hr15
 have HR35:=hide hr35
 have HB5p:=hide hb5p
 have HW5:=hide hw5
 have HfA1:=hide hfarA1
 have HfA3:=hide hfarA3
 have HfB:=hide hfarB
 have HnP:=hide hnotp
 have hfall:Fr (fun g => g = p ∨ wS pw rw g) w w5:=by
  have f1:Fr (fun g => g = p ∨ wS pw rw g) w w1:=HF1.out.mono fun g hg => .inl hg
  have f3:=(f1.thenBelow HF2.out (by omega)).thenBelow HF3.out (by omega)
  exact (f3.trans HF4.out (fun g hg => .inl (.inr hg))).thenBelow HF5.out (by omega)
 have HFall:=hide hfall
 have hc3:=codes_len HCod.out
 obtain ⟨F,hF⟩:∃ F,F = l0 ++ tabBits (lensL L) ++ L.flatMap (codeB (lensL L)):=⟨_,rfl⟩
 have hFl:F.length ≤ 3000000:=by
  have:=HTl.out
  rw [hF,List.length_append,List.length_append];omega
 have HFe:=hide hF
 clear hrow4 hwl hfarA1 hfarA3 hfarB hnotp hr15 hr35 hb5p hw5 hfall hc3 hF HF1 HF2 HF3 HF4 HF5 HB1 HB2 HR1 HR3 HWt HLn HOf HTa HSy HW4
 go_loopw [28] (fun i wr => ∃ (k:Nat) (rk:Option Nat) (l:List Bool),k ≤ L.length ∧ i = .int .i64 k ∧ Hid (Wr wr pw rk l) ∧ Hid (rowNew w5 row4 rk) ∧ Hid (Fr (wS pw row4) w5 wr) ∧ Hid (l ++ (L.drop k).flatMap (codeB (lensL L)) = F)) (fun i _ => L.length - (intOf i).toNat)
 case atStart => exact ⟨0,row4,l0 ++ tabBits (lensL L),by omega,rfl,HW5,hide (.inl rfl),hide (Fr.refl _ _),hide (by rw [List.drop_zero];exact HFe.out.symm)⟩
 case round =>
  clear HW5
  obtain ⟨k,rk,l,hk,rfl,hwr,hrn,hfr,hsum⟩:=hrel
  by_cases hlt:k < L.length
  · obtain ⟨x,hx⟩:∃ x,L[k]? = some x:=⟨L[k],List.getElem?_eq_getElem hlt⟩
    have hxm:=List.mem_of_getElem? hx
    have hx258:=HX.out x hxm
    obtain ⟨n,hn1,hn2,hn3⟩:=HCod.out x hxm
    have hrA1:=HR15.out.frB hfr.out HfA1.out
    have hrA3:=HR35.out.frB hfr.out HfA3.out
    have hbn:=HB5.out.fr hfr.out HfB.out
    have hz:=hfr.out.size
    obtain ⟨b,o,hA,hbb,hc0⟩:=hrA1 k (u64V x) (by rw [List.getElem?_map,hx];rfl)
    subst hA
    have hc:wr.cell? ⟨b,o + k,none⟩ = some (.int .u64 (x:Nat)):=hc0
    have hbook:=hbn.book (hrA3.more (by omega))
    have hs:=hsum.out
    rw [drop_cons_nat hx,List.flatMap_cons,← List.append_assoc] at hs
    have hl2:l.length + n ≤ 3000000:=by
     have:=congrArg List.length hs
     rw [List.length_append,List.length_append,codeB_length hn1] at this;omega
    have hcb:codeB (lensL L) x = natBits (codeN (lensL L) x) n:=by unfold codeB;rw [lenN_of hn1,Int.toNat_natCast]
    have hcn:=codeN_lt (lensL L) x (by rw [HLL.out];decide)
    have cd:=code_any _ p5 (lensL L) A3 c3 x (n:Int) wr hbook hn1
    obtain ⟨V,hV⟩:∃ V,V = codeN (lensL L) x:=⟨_,rfl⟩
    rw [← hV] at hcb hcn cd
    have ad:=fun m => add_any pw rk l V n (wr.drewN m) (by omega) (by omega) (hwr.out.drewN m) (by omega)
    have HCd:=hide cd
    have HAd:=hide ad
    have HSum:=hide hs
    have HCb:=hide hcb
    clear hrA1 hrA3 hbn hc0 hbook hs hcb hcn hV cd ad hx hxm hn1 hsum hwr
    go_wp2_with (first
     | (go_at_call 104;refine (Calls.mono HCd.out ?_);rintro e w6 ⟨rfl,j6,rfl⟩)
     | (go_at_call 103;refine (Calls.mono (HAd.out _) ?_);rintro e w7 ⟨rfl,row7,hw7,hn7,hf7⟩;have HW7:=hide hw7;have HN7:=hide hn7;have HF7:=hide hf7;clear hw7 hn7 hf7))
    go_roundw
    case rel =>
     refine ⟨k + 1,row7,_,by omega,by go_num,HW7,hide (hrn.out.trans HN7.out hz),hide (frNew (hfr.out.drewN _) hrn.out HF7.out),hide ?_⟩
     rw [← HCb.out];exact HSum.out
    case measure => simp [intOf];omega
  · obtain rfl:k = L.length:=by omega
    have hs:=hsum.out
    rw [List.drop_eq_nil_of_le (Nat.le_refl _),List.flatMap_nil,List.append_nil] at hs
    have HS:=hide hs
    clear hs hsum
    go_wp2_with fail
    go_end0
    refine ⟨rfl,rk, ?_, ?_,HB5p.out.fr hfr.out HnP.out, ?_⟩
    · unfold segBits
      rw [← List.append_assoc,← HFe.out,← HS.out];exact hwr.out
    · rcases hrn.out with e | ⟨g,e,hg⟩
      · rw [e]
        rcases HN4.out with e4 | ⟨g4,e4,hg4⟩
        · exact .inl e4
        · exact .inr ⟨g4,e4,by omega⟩
      · exact .inr ⟨g,e,by omega⟩
    · refine HFall.out.trans hfr.out (fun g hg => ?_)
      rcases hg with hg | hg
      · exact .inl (.inr (.inl hg))
      · rcases (HR4.out g hg).1 with e | e
        · exact .inl (.inr (.inr e))
        · exact .inr (by omega)
def allB:Nat → List Nat → List Nat → List Bool
 | 0,_,_ => []
 | f + 1,row,l => if l = [] then [] else segBits (encZ 0 (toL row (l.take 512)).1) ++ allB f (toL row (l.take 512)).2 (l.drop 512)
theorem allB_nil (f:Nat) (row:List Nat):allB f row [] = []:=by cases f <;> rfl
theorem allB_fuel:∀ (f g:Nat) (row l:List Nat),l.length ≤ f → l.length ≤ g → allB f row l = allB g row l:=by
 intro f
 induction f with
 | zero =>
   intro g row l h _
   have:l = []:=List.eq_nil_of_length_eq_zero (by omega)
   rw [this,allB_nil,allB_nil]
 | succ f ih =>
   intro g row l h1 h2
   by_cases h0:l = []
   · rw [h0,allB_nil,allB_nil]
   · have hp:0 < l.length:=List.length_pos_iff.2 h0
     obtain ⟨g,rfl⟩:∃ k,g = k + 1:=⟨g - 1,by omega⟩
     rw [allB,allB,if_neg h0,if_neg h0,ih g _ _ (by rw [List.length_drop];omega) (by rw [List.length_drop];omega)]
def allL (l:List Nat):List Bool:=allB l.length freshL l
def segsN (n:Nat):Nat:=(n + 511) / 512
theorem strL_sub (s:ByteArray) (i j:Nat):strL (s.extract i j) = ((strL s).take j).drop i:=by
 apply List.ext_getElem?
 intro k
 rw [List.getElem?_drop]
 have hsz:(s.extract i j).size = min j s.size - i:=ByteArray.size_extract
 rcases Nat.lt_or_ge k (min j s.size - i) with g | g
 · rw [strL_get (by omega),List.getElem?_take_of_lt (by omega),strL_get (by omega)]
   congr 1
   rw [← byt_of _ (by omega),← byt_of s (k:=i + k) (by omega),ByteArray.getElem_extract]
 · rw [List.getElem?_eq_none (by rw [strL_length];omega),List.getElem?_eq_none (by rw [List.length_take,strL_length];omega)]
theorem segBits_len {l:List Nat} (h:∀ x ∈ l,x < 258):(segBits l).length ≤ 20000 + 15 * l.length:=by
 have h1:=tabBits_length_le (seg_ok l)
 have h2:=codes_len (fun x hx => seg_has hx (h x hx))
 unfold segBits
 rw [List.length_append];omega
theorem built_row:List.foldl (fun (cs:Array Value) (x:Value × Nat) => cs.setIfInBounds x.snd x.fst) Tryz.zeroCells82 (vby freshL).zipIdx = (vby freshL).toArray:=by kernel_rfl
theorem segsN_step {n:Nat} (h:0 < n):segsN n = 1 + segsN (n - 512):=by unfold segsN;omega
theorem size_zero {s:ByteArray} (h:s.size = 0):s = ⟨#[]⟩:=strL_inj (by rw [List.eq_nil_of_length_eq_zero (l:=strL s) (by rw [strL_length];exact h)];rfl)
theorem not_empty {s:ByteArray} (h:s.size ≠ 0):s.toList.isEmpty = false:=by
 rw [Lib.toList_data]
 cases hd:s.data.toList with
 | nil =>
   have:s.data.toList.length = 0:=by rw [hd];rfl
   rw [Array.length_toList] at this
   exact absurd this h
 | cons x l => rfl
set_option maxHeartbeats 4000000 in
theorem segAll_any (s:ByteArray) (w:World) (hs:s.size ≤ 4096) :
 Calls Tryz.prog 30 #[.string s] w fun e w' => (∃ b N,e = .returned (.tuple #[bstr b N,.int .i64 (segsN s.size:Nat),.int .i64 0]) ∧ Bs b N (allL (strL s))) ∧ Below w.heap.size w w':=by
 have d0:decide ((65536:Int) < (s.size:Int)) = false:=decide_eq_false (by omega)
 have nw:=fun W => new_any W
 have HNw:=hide nw
 clear nw
 go_enter Tryz.func30,Tryz.ntmps30
 go_wp2_with (go_at_call 48;refine (Calls.mono (HNw.out _) ?_);rintro e w1 ⟨rfl,hb1⟩)
 rw [built_row]
 have hz1:=hb1.size
 simp only [World.size_alloc] at hz1
 obtain ⟨F,hF⟩:∃ F,F = allL (strL s):=⟨_,rfl⟩
 have hFb:Below (w.heap.size + 1) (w.alloc (Obj.cells #[Value.string { data:=#[] },Value.int IntKind.i64 0] 27)) w1:=by have:=hb1;simpa using this
 have hR1:Bk w1 w.heap.size 27 #[.string ⟨#[]⟩,.int .i64 0]:=(Bk.new w _ _).below hFb (by omega)
 have HF:=hide hF
 have HR1:=hide hR1
 have HFb:=hide hFb
 clear hF hR1 hFb hb1 HNw
 go_loopw [0,7] (fun tx n wr => ∃ (j:Nat) (sk:ByteArray) (row:List Nat) (l:List Bool) (rk:Option Nat),tx = .string sk ∧ n = .int .i64 j ∧ sk.size ≤ 4096 ∧ j + segsN sk.size = segsN s.size ∧ l.length ≤ 28000 * j ∧ RowOK row ∧ Hid (Wr wr (w1.heap.size + 1) rk l) ∧ (∀ g,rk = some g → w1.heap.size ≤ g) ∧ Hid (Bk wr w1.heap.size 82 (vby row).toArray) ∧ Hid (l ++ allB sk.size row (strL sk) = F) ∧ Hid (Bk wr w.heap.size 27 #[.string ⟨#[]⟩,.int .i64 0]) ∧ Hid (Below w.heap.size w wr)) (fun tx _ _ => match tx with | .string sk => sk.size | _ => 0)
 case atStart =>
  refine ⟨0,s,freshL,[],none,rfl,rfl,hs,by omega,by simp,fresh_ok,hide ?_,(fun g hg => by cases hg),hide ?_,hide ?_,hide ?_,hide ?_⟩
  · have:=Wr.new (w1.alloc (Obj.cells (vby freshL).toArray 82))
    rwa [show (w1.alloc (Obj.cells (vby freshL).toArray 82)).heap.size = w1.heap.size + 1 by simp] at this
  · exact (Bk.new w1 _ _).alloc _
  · rw [HF.out];unfold allL;rw [strL_length,List.nil_append]
  · exact (HR1.out.alloc _).alloc _
  · exact (((((Below.refl _ w).alloc (Nat.le_refl _) _).trans (HFb.out.mono (by omega))).alloc (by omega) _).alloc (by simp;omega) _)
 case round =>
  clear HR1 HFb
  obtain ⟨j,sk,row,l,rk,rfl,rfl,hsk,hj,hl,hok,hwr,hrk,hbk,hsum,hres,hbe⟩:=hrel
  have hj8:j ≤ 8:=by unfold segsN at hj;omega
  by_cases h0:sk.size = 0
  · have:=size_zero h0
    subst this
    have hs2:=hsum.out
    rw [show (strL ⟨#[]⟩) = [] from rfl,allB_nil,List.append_nil] at hs2
    have HS2:=hide hs2
    have hj2:j = segsN s.size:=by rw [← hj];rfl
    have hb:=fun W (h:Wr W (w1.heap.size + 1) rk l) => wbits_any (w1.heap.size + 1) rk l W h (by omega)
    have HBt:=hide (hb wr hwr.out)
    have hrc:=two_cells hres.out
    have hrf:=hres.out.free 0
    have hrf1:=hres.out.free 1
    clear hs2 hsum hb hj h0 hsk
    go_wp2_with (go_at_call 63;refine (Calls.mono HBt.out ?_);rintro e w5 ⟨S,rfl,hbs,hb5⟩;have k5:=hres.out.keep hb5;obtain ⟨v0,v1⟩:=two_cells k5;have f0:=k5.free 0;have f1:=k5.free 1;have K5:=hide k5;have HBs:=hide hbs;have HB5:=hide hb5;clear k5 hbs hb5)
    obtain ⟨t0,t1⟩:=two_cells ((K5.out.set_ 0 (.string S)).set_ 1 (.int .i64 (l.length:Nat)))
    refine bodyPost_ret (v:=.tuple #[bstr S (l.length:Nat),.int .i64 (segsN s.size:Nat),.int .i64 0]) (by simp [results,Tryz.results30,go_sem,t0,t1]) rfl ?_
    have hz:=hbe.out.size
    refine ⟨⟨S,(l.length:Nat),rfl, ?_⟩,((hbe.out.trans (HB5.out.mono (by omega))).setCell (p:=⟨w.heap.size,0,none⟩) (Nat.le_refl _) _).setCell (p:=⟨w.heap.size,1,none⟩) (Nat.le_refl _) _⟩
    rw [← HF.out,← HS2.out];exact HBs.out
  · have hE:=not_empty h0
    obtain ⟨k,hk⟩:∃ k:Nat,k = min 512 sk.size:=⟨_,rfl⟩
    have hkI:(min (512:Int) (sk.size:Int)) = (k:Int):=by omega
    have hkl:k ≤ sk.size:=by omega
    have hk512:k ≤ 512:=by omega
    have e1:strL (sk.extract 0 k) = (strL sk).take 512:=by
     rw [strL_sub,List.drop_zero,hk]
     rcases Nat.le_total 512 sk.size with g | g
     · rw [Nat.min_eq_left g]
     · rw [Nat.min_eq_right g,List.take_of_length_le (by rw [strL_length];exact Nat.le_refl _),List.take_of_length_le (by rw [strL_length];exact g)]
    have e2:strL (sk.extract k sk.size) = (strL sk).drop 512:=by
     rw [strL_sub,List.take_of_length_le (by rw [strL_length];exact Nat.le_refl _),hk]
     rcases Nat.le_total 512 sk.size with g | g
     · rw [Nat.min_eq_left g]
     · rw [Nat.min_eq_right g,List.drop_eq_nil_of_le (by rw [strL_length];exact Nat.le_refl _),List.drop_eq_nil_of_le (by rw [strL_length];exact g)]
    have e3:(sk.extract k sk.size).size = sk.size - k:=by rw [← strL_length,e2,List.length_drop,strL_length];omega
    have e4:(sk.extract 0 k).size = k:=by rw [← strL_length,e1,List.length_take,strL_length];omega
    have hne:strL sk ≠ []:=fun e => h0 (by rw [← strL_length,e];rfl)
    have hs2:=hsum.out
    obtain ⟨f,hf⟩:∃ f,sk.size = f + 1:=⟨sk.size - 1,by omega⟩
    rw [hf,allB,if_neg hne,allB_fuel f (sk.extract k sk.size).size _ _ (by rw [List.length_drop,strL_length];omega) (by rw [List.length_drop,strL_length,e3];omega),← e1,← e2,← List.append_assoc] at hs2
    have hap:=hwr.out.apart hbk.out (by decide) (by decide)
    have wr_:=write_any w1.heap.size (w1.heap.size + 1) 82 row rk l (sk.extract 0 k) wr hok hbk.out hwr.out (by omega) (fun e => hap (.inr e)) (by omega) (by omega)
    have hok2:=toL_ok hok (strL_lt (sk.extract 0 k))
    have hbl:=segBits_len (l:=encZ 0 (toL row (strL (sk.extract 0 k))).1) (fun x hx => by have:=encZ_sym 0 hok2.2.1 x hx;omega)
    have hel:=encZ_snoc_len (toL row (strL (sk.extract 0 k))).1 0
    rw [hok2.2.2,strL_length,e4] at hel
    have hnj:j + 1 + segsN (sk.size - k) = segsN s.size:=by
     rw [← hj,segsN_step (n:=sk.size) (by omega)]
     have:segsN (sk.size - k) = segsN (sk.size - 512):=by unfold segsN;omega
     omega
    obtain ⟨R,hR⟩:∃ R,R = (toL row (strL (sk.extract 0 k))).2:=⟨_,rfl⟩
    obtain ⟨Q,hQ⟩:∃ Q,Q = segBits (encZ 0 (toL row (strL (sk.extract 0 k))).1):=⟨_,rfl⟩
    rw [← hR] at hs2 wr_ hok2
    rw [← hQ] at hs2 wr_ hbl
    obtain ⟨X,hX⟩:∃ X,X = sk.extract 0 k:=⟨_,rfl⟩
    obtain ⟨Y,hY⟩:∃ Y,Y = sk.extract k sk.size:=⟨_,rfl⟩
    rw [← hX] at wr_
    rw [← hY] at hs2 e3
    have hQl:(l ++ Q).length ≤ 28000 * (j + 1):=by rw [List.length_append];omega
    have hL0:decide ((1048576:Int) < ((l ++ Q).length:Int)) = false:=decide_eq_false (by omega)
    have HW:=hide wr_
    have HS2:=hide hs2
    have HOk2:=hide hok2.1
    obtain ⟨M,hM⟩:∃ M,M = (l ++ Q).length:=⟨_,rfl⟩
    have HM:=hide hM
    rw [← hM] at hL0 hQl
    have hXs:=hX.symm
    have hYs:=hY.symm
    clear hk e1 e2 e4 hne hs2 hsum hf hap wr_ hok2 hbl hel hR hQ hX hY hM hj
    go_wp2_with (first
     | (go_at_call 62;refine (Calls.mono HW.out ?_);rintro e w5 ⟨rfl,row5,hw5,hn5,hb5,hf5⟩;have HW5:=hide hw5;have HN5:=hide hn5;have HB5:=hide hb5;have HF5:=hide hf5;clear hw5 hn5 hb5 hf5)
     | (go_at_call 61;refine (Calls.mono (len_any (w1.heap.size + 1) row5 (l ++ Q) w5 HW5.out (by rw [← HM.out];omega)) ?_);rintro e w6 ⟨rfl,j6,rfl⟩;rw [← HM.out]))
    have hz:=hbe.out.size
    have hS5:∀ g,(g = w1.heap.size ∨ wS (w1.heap.size + 1) rk g) → w.heap.size + 1 ≤ g:=fun g hg => by
     rcases hg with hg | hg | hg
     · omega
     · omega
     · have:=hrk g hg;omega
    go_roundw
    case rel =>
     refine ⟨j + 1,Y,R,l ++ Q,row5,rfl,by go_num,by omega,by rw [e3];exact hnj,by rw [← HM.out];exact hQl,HOk2.out,hide (HW5.out.drewN _),fun g hg => ?_,hide (HB5.out.drewN _),hide HS2.out,hide ((hres.out.fr HF5.out (fun hs => by have:=hS5 _ hs;omega)).drewN _),hide (below_drewN (hbe.out.trans (HF5.out.toBelowB (fun g hg => by have:=hS5 g hg;omega) hz)) _)⟩
     rcases HN5.out with e | ⟨g',e,hg'⟩
     · exact hrk g (by rw [← e,hg])
     · rw [e] at hg;cases hg;have:=hwr.out.lt.1;omega
    case measure => simp;omega
theorem fromL_ok {row:List Nat} (h:RowOK row) {s:List Nat} (hs:∀ i ∈ s,i < 256):RowOK (fromL row s).2 ∧ (∀ c ∈ (fromL row s).1,c < 256) ∧ (fromL row s).1.length = s.length:=by
 induction s generalizing row with
 | nil => exact ⟨h,by simp [fromL],rfl⟩
 | cons i s ih =>
   have hi:=hs i (by simp)
   obtain ⟨h1,h2,h3⟩:=ih (h.lift hi) (fun x hx => hs x (List.mem_cons_of_mem _ hx))
   refine ⟨h1,fun c hc => ?_, ?_⟩
   · rcases List.mem_cons.1 hc with rfl | hc
     · have hl:i < row.length:=by rw [h.len];exact hi
       rw [List.getD_eq_getElem?_getD,List.getElem?_eq_getElem hl];exact h.lt _ (List.getElem_mem hl)
     · exact h2 c hc
   · show (fromL (liftL row i) s).1.length + 1 = s.length + 1
     rw [h3]
def backR (s:ByteArray) (N:Nat):Nat → List Nat → Nat → List Nat → Int × List Nat
 | 0,_,a,out => if a = N then (0,out) else (7,[])
 | k + 1,row,a,out =>
   if (segR s N a).1 = 0 then
    if (0 < k ∧ (segR s N a).2.1.length ≠ 512) ∨ 65536 < out.length + (segR s N a).2.1.length then (7,[])
    else backR s N k (fromL row (segR s N a).2.1).2 (segR s N a).2.2 (out ++ (fromL row (segR s N a).2.1).1)
   else ((segR s N a).1,[])
theorem backR_step {s:ByteArray} {N k a:Nat} {row out t:List Nat} {w:Int} {a':Nat} (h:segR s N a = (w,t,a')):backR s N (k + 1) row a out =
 if w = 0 then (if (0 < k ∧ t.length ≠ 512) ∨ 65536 < out.length + t.length then (7,[]) else backR s N k (fromL row t).2 a' (out ++ (fromL row t).1)) else (w,[]):=by rw [backR,h]
theorem segsN_zero {n:Nat} (h:n = 0):segsN n = 0:=by rw [h];rfl
theorem back_there {s:ByteArray} {N:Nat}:∀ (k:Nat) {l row out:List Nat} {a:Nat},segsN l.length = k → RowOK row → (∀ c ∈ l,c < 256) → a ≤ N → out.length + l.length ≤ 65536 → (bitsL s N).drop a = allB l.length row l → backR s N k row a out = (0,out ++ l):=by
 intro k
 induction k with
 | zero =>
   intro l row out a hk hr hl ha ho hb
   have h0:l = []:=List.eq_nil_of_length_eq_zero (by unfold segsN at hk;omega)
   subst h0
   rw [allB_nil] at hb
   have:=congrArg List.length hb
   rw [List.length_drop,bitsL_length] at this
   simp at this
   rw [backR,if_pos (by omega),List.append_nil]
 | succ k ih =>
   intro l row out a hk hr hl ha ho hb
   have hp:0 < l.length:=by
    rcases Nat.eq_zero_or_pos l.length with h0 | h0
    · rw [segsN_zero h0] at hk;omega
    · exact h0
   have hne:l ≠ []:=List.length_pos_iff.1 hp
   obtain ⟨f,hf⟩:∃ f,l.length = f + 1:=⟨l.length - 1,by omega⟩
   have hl1:∀ c ∈ l.take 512,c < 256:=fun c hc => hl c (List.mem_of_mem_take hc)
   have hl2:∀ c ∈ l.drop 512,c < 256:=fun c hc => hl c (List.mem_of_mem_drop hc)
   obtain ⟨q1,q2,q3⟩:=toL_ok hr hl1
   have hft:=from_to hr hl1
   rw [hf,allB,if_neg hne,allB_fuel f (l.drop 512).length _ _ (by rw [List.length_drop];omega) (Nat.le_refl _)] at hb
   have htl:(toL row (l.take 512)).1.length = min 512 l.length:=by rw [q3,List.length_take]
   obtain ⟨a',e1,e2,e3,_⟩:=seg_there ha q2 (fun e => by rw [e] at htl;simp at htl;omega) (by omega) hb
   rw [backR_step e1,if_pos rfl]
   have hk':segsN (l.drop 512).length = k:=by
    rw [List.length_drop];rw [segsN_step hp] at hk;omega
   rw [if_neg (by
    rw [htl]
    rintro (⟨g1,g2⟩ | g)
    · have:512 < l.length:=by
       rcases Nat.lt_or_ge 512 l.length with g | g
       · exact g
       · rw [List.length_drop,Nat.sub_eq_zero_of_le g] at hk'
         rw [segsN_zero rfl] at hk';omega
      omega
    · omega),hft,ih hk' q1 hl2 e3 (by rw [List.length_append,List.length_take,List.length_drop];omega) e2,List.append_assoc,List.take_append_drop]
theorem back_was {s:ByteArray} {N:Nat}:∀ (k:Nat) {row out T:List Nat} {a:Nat},RowOK row → a ≤ N → backR s N k row a out = (0,T) →
 ∃ l,T = out ++ l ∧ (∀ c ∈ l,c < 256) ∧ segsN l.length = k ∧ (bitsL s N).drop a = allB l.length row l:=by
 intro k
 induction k with
 | zero =>
   intro row out T a hr ha h
   rw [backR] at h
   split at h
   · rename_i e
     cases h
     exact ⟨[],by simp,by simp,rfl,by rw [allB_nil];exact List.drop_eq_nil_of_le (by rw [bitsL_length];omega)⟩
   · cases h
 | succ k ih =>
   intro row out T a hr ha h
   obtain ⟨w,t,a',hs⟩:=trip (segR s N a)
   rw [backR_step hs] at h
   by_cases h0:w = 0
   · subst h0
     rw [if_pos rfl] at h
     by_cases h1:(0 < k ∧ t.length ≠ 512) ∨ 65536 < out.length + t.length
     · rw [if_pos h1] at h;cases h
     · rw [if_neg h1] at h
       obtain ⟨r1,r2,r3,r4,r5,r6⟩:=seg_read ha hs
       obtain ⟨q1,q2,q3⟩:=fromL_ok hr r3
       have htf:=to_from hr r3
       obtain ⟨l,e1,e2,e3,e4⟩:=ih q1 r6 h
       obtain ⟨X,hX⟩:∃ X,X = (fromL row t).1:=⟨_,rfl⟩
       rw [← hX] at e1 q2 q3 htf
       have hXp:0 < X.length:=by rw [q3];exact List.length_pos_iff.2 r1
       have hk:k = 0 → l = []:=fun e => List.eq_nil_of_length_eq_zero (by rw [e] at e3;unfold segsN at e3;omega)
       have h512:X.length ≤ 512:=by omega
       have hfull:0 < k → X.length = 512:=fun g => by
        by_cases e:t.length = 512
        · omega
        · exact absurd (.inl ⟨g,e⟩) h1
       have htk:(X ++ l).take 512 = X:=by
        rcases Nat.eq_zero_or_pos k with g | g
        · rw [hk g,List.append_nil,List.take_of_length_le h512]
        · rw [← hfull g,List.take_left]
       have hdk:(X ++ l).drop 512 = l:=by
        rcases Nat.eq_zero_or_pos k with g | g
        · rw [hk g,List.append_nil,List.drop_eq_nil_of_le h512]
        · rw [← hfull g,List.drop_left]
       refine ⟨X ++ l,by rw [e1,List.append_assoc],fun c hc => ?_, ?_, ?_⟩
       · rcases List.mem_append.1 hc with hc | hc
         · exact q2 c hc
         · exact e2 c hc
       · have hp:0 < (X ++ l).length:=by rw [List.length_append];omega
         rw [segsN_step hp,← List.length_drop,hdk,e3];omega
       · have hne:X ++ l ≠ []:=fun e => by rw [(List.append_eq_nil_iff.1 e).1] at hXp;simp at hXp
         obtain ⟨f,hf⟩:∃ f,(X ++ l).length = f + 1:=⟨(X ++ l).length - 1,by rw [List.length_append];omega⟩
         rw [hf,allB,if_neg hne,htk,hdk,htf,allB_fuel f l.length _ _ (by rw [List.length_append] at hf;omega) (Nat.le_refl _),r4,e4]
   · rw [if_neg h0] at h
     simp only [Prod.mk.injEq] at h
     exact absurd h.1 h0
theorem all_back {b:ByteArray} {N:Int} {l:List Nat} (hl:∀ c ∈ l,c < 256) (h64:l.length ≤ 65536) (h:Bs b N (allL l)):backR b N.toNat (segsN l.length) freshL 0 [] = (0,l):=by
 have e:N.toNat = (allL l).length:=by rw [h.2.1];simp
 have:=back_there (s:=b) (N:=N.toNat) (segsN l.length) (l:=l) (out:=[]) (a:=0) rfl fresh_ok hl (Nat.zero_le _) (by simpa using h64) (by rw [List.drop_zero,e,h.2.2];rfl)
 simpa using this
theorem back_all {b:ByteArray} {N k:Nat} {T:List Nat} (hr:rightB b N = true) (h:backR b N k freshL 0 [] = (0,T)):(∀ c ∈ T,c < 256) ∧ segsN T.length = k ∧ Bs b N (allL T):=by
 obtain ⟨l,e1,e2,e3,e4⟩:=back_was k fresh_ok (Nat.zero_le N) h
 rw [List.nil_append] at e1
 subst e1
 rw [List.drop_zero] at e4
 refine ⟨e2,e3, ?_⟩
 unfold allL
 rw [← e4]
 exact Bs.of_right hr
end Go.Proofs.YtcfnjpokfodmoaaGreatDoor
