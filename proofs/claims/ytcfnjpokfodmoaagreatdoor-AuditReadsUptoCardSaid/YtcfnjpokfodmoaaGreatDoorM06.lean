/- Lemmas for the row: RangePos, Backward, Count, LenPlain, Lengths, RefB, Zeros, ZerosB, OptA, OptB, OptC, OptD. -/
import Derived.Test.YtcfnjpokfodmoaaGreatDoorM01
import Derived.Test.YtcfnjpokfodmoaaGreatDoorM05
import Derived.LoopIn
import Derived.LoopNIn
import Derived.OwnWalkIn
import Derived.RangeFuncBound
import Derived.RangeFuncCalls
import Derived.RangeFuncFrom
import Derived.RangeFuncLeaves
import Derived.RangeFuncNested
import Derived.Shelf.Abstract
import Derived.Shelf.RegionOpen
import Derived.TacticsInMore
set_option maxRecDepth 100000
set_option linter.unusedVariables false
namespace Go.Proofs.YtcfnjpokfodmoaaGreatDoor
open Go.RowKit Go.Shelf
attribute [local go_sem] Oper.semAt_some
def SeqPos (F:Fence) (n:Nat) (P:Program) (g:Nat) (lb:Array Value) (encs:Nat → Array Value) (S:Nat → Prop) (N:Nat) (w:World):Prop :=
 ∀ (l:Nat) (J:Nat → World → Prop) (W:World),Below w.heap.size w W →
   (∀ k W1,k < N → J k W1 → YieldAt F (n - 1) P l (encs k) W1 fun e W' => e = .returned (.bool true) ∧ J (k + 1) W' ∧ Fr S W1 W') →
   J 0 W → CallsIn F n P g (#[.func (.yield l) #[] #[]] ++ lb) W fun e W' => (∃ v,e = .returned v) ∧ J N W'
section
variable {F:Fence} {n:Nat} {P:Program}
theorem range_pos {g:Operand} {ps:Array Tmp} {assign body:Code} {Q:Exit → Act → World → Prop} {a:Act} {w:World}
 (hro:F.round = none) (h1:1 ≤ n) {gf:Nat} {lb:Array Value} (hg:a.eval g = .func (.func gf) #[] lb) (hFg:F.fn gf) (eg:∀ args w,(callFunc gf args).run P w = .ok (.enter gf args) w)
 {S:Nat → Prop} {N:Nat} {encs:Nat → Array Value} (hps:∀ k,(encs k).size = ps.size) (hS:∀ k,w.heap.size ≤ k → S k) (hseq:SeqPos F (n - 1) P gf lb encs S N w)
 (I:Nat → World → Prop) (hI:OwnFrom w.heap.size I) (h0:I 0 w) (a1:Nat → Act)
 (hassign:∀ (l k:Nat) (W:World) (K:Act → World → Prop),K (a1 k) W →
   assign.wpIn (F.inRound l) (n - 1 - 1) P (Exit.then K (fun _ _ _ => False)) { tmps:=(ps.zip (encs k)).foldl (fun t (p,v) => t.setIfInBounds p v) a.tmps,defers:=[] } W)
 (hbody:∀ (l k:Nat) (W:World),k < N → I k W → body.wpIn (F.inRound l) (n - 1 - 1) P (fun e _ W' => e = .normal ∧ KeepsOthers W W' ∧ Fr S W W' ∧ I (k + 1) W') (a1 k) W)
 (hdone:∀ (D:Nat) (W:World),w.heap.size ≤ D → I N W → W.heap[D]? = some (.deferred (some [])) → Q .normal { a with defers:={ target:=.collected D,args:=#[] } :: a.defers } W) :
 (Code.rangeFunc g ps assign body).wpIn F n P Q a w:=by
 refine wpIn_rangeFunc fun fn hfn => ?_
 rw [hro]
 -- the loop's record,in its states
 obtain ⟨R,hR⟩:∃ R:LoopState → Loop,∀ s,R s = { state:=s,pending:=none,fn:=fn,tmps:=a.tmps,params:=ps,assign:=assign,body:=body,defers:=w.heap.size }:=⟨_,fun _ => rfl⟩
 obtain ⟨V,hV⟩:∃ V,V = (w.alloc (.deferred (some []))).alloc (.loop (R .ready)):=⟨_,rfl⟩
 have vl:V.heap[w.heap.size + 1]? = some (.loop (R .ready)):=by
  have:=World.alloc_heap_new (w.alloc (.deferred (some []))) (.loop (R .ready))
  rw [World.size_alloc] at this
  rw [hV];exact this
 have vd:V.heap[w.heap.size]? = some (.deferred (some [])):=by
  rw [hV];exact (Below.heap_alloc _ _ _ (by simp)).trans (World.alloc_heap_new w _)
 have vb:Below w.heap.size w V:=by
  rw [hV];exact ((Below.refl _ w).alloc (Nat.le_refl _) _).alloc (by simp) _
 have v0:I 0 V:=by rw [hV];exact hI.alloc _ (hI.alloc _ h0)
 have ent:(Instr.enterLoop fn a.tmps ps assign body none).run P w = .ok (w.heap.size + 1,[{ target:=.collected w.heap.size,args:=#[] }]) V:=by
  rw [hV,hR];exact run_enterLoop_outer _ _ _ _ _
 refine ⟨w.heap.size + 1,[{ target:=.collected w.heap.size,args:=#[] }],V,{ target:=.fn (.func gf) lb,args:=#[.func (.yield (w.heap.size + 1)) #[] #[]] },V,gf,#[.func (.yield (w.heap.size + 1)) #[] #[]] ++ lb,V,ent, ?_, ?_, ?_,fun _ => h1, ?_⟩
 · simp only [resolve,hg];simp [go_sem]
 · intro f' hf'
   simp [Target.leads] at hf'
   subst hf'
   exact hFg
 · simp [invoke,go_sem,eg]
 clear ent hV
 -- what is true between two rounds
 have it:=hseq (w.heap.size + 1) (fun k W => I k W ∧ W.heap[w.heap.size + 1]? = some (.loop (R .ready)) ∧ W.heap[w.heap.size]? = some (.deferred (some []))) V vb ?_ ⟨v0,vl,vd⟩
 · refine it.mono ?_
   rintro e W ⟨⟨v,rfl⟩,hi,hl,hd⟩
   have hend:=run_endLoop (P:=P) hl (by rw [hR];simp)
   refine ⟨none,_,by rw [hend,hR],hdone w.heap.size _ (Nat.le_refl _) (hI.putObj _ hi (by omega) hl rfl) ((World.putObj_heap_other (by omega)).trans hd)⟩
 · rintro k W hk ⟨hi,hl,hd⟩
   have hlt:w.heap.size + 1 < W.heap.size:=(Array.getElem?_eq_some_iff.1 hl).1
   obtain ⟨W2,hW2⟩:∃ W2,W2 = W.putObj (w.heap.size + 1) (.loop (R .busy)):=⟨_,rfl⟩
   have beg:(Instr.beginRound (w.heap.size + 1)).run P W = .ok () W2:=by
    have:=run_beginRound (P:=P) hl (by rw [hR])
    rw [this,hW2,hR,hR]
   have l2:W2.heap[w.heap.size + 1]? = some (.loop (R .busy)):=by rw [hW2];exact World.putObj_heap_same hlt
   have d2:W2.heap[w.heap.size]? = some (.deferred (some [])):=by rw [hW2];exact (World.putObj_heap_other (by omega)).trans hd
   have i2:I k W2:=by rw [hW2];exact hI.putObj _ hi (by omega) hl rfl
   have b2:Fr S W W2:=by rw [hW2];exact Fr.grown (grownBy_putObj' _ _ _) (fun g e => by cases e;exact hS _ (by omega))
   have hy:=run_yield (P:=P) (args:=encs k) hl (by rw [hR];exact hps k)
   rw [hR] at hy
   refine ⟨fn,_,assign,body,hy,roundIn_of_wpIn hfn (hassign _ k W _ ⟨W2,beg, ?_⟩)⟩
   refine wpIn_mono (hbody _ k W2 hk i2) ?_
   rintro e a3 W3 ⟨rfl,ko,b3,i3⟩
   have l3:=ko.same _ _ l2 rfl
   have fin:=run_endRound (P:=P) none l3
   obtain ⟨W4,hW4⟩:∃ W4,W4 = W3.putObj (w.heap.size + 1) (.loop (R .ready)):=⟨_,rfl⟩
   have fin2:(Instr.endRound (w.heap.size + 1) none).run P W3 = .ok (.bool true) W4:=by
    rw [fin,hW4,hR,hR];rfl
   refine ⟨_,_,fin2,rfl,⟨?_, ?_, ?_⟩, ?_⟩
   · rw [hW4];exact hI.putObj _ i3 (by omega) l3 rfl
   · rw [hW4];exact World.putObj_heap_same (Array.getElem?_eq_some_iff.1 l3).1
   · rw [hW4];exact (World.putObj_heap_other (by omega)).trans (ko.same _ _ d2 rfl)
   · rw [hW4];exact (b2.trans b3 (fun _ h => .inl h)).trans (Fr.grown (S:=S) (grownBy_putObj' _ _ _) (fun g e => by cases e;exact hS _ (by omega))) (fun _ h => .inl h)
end
attribute [local go_sem] Oper.semAt_some
set_option maxHeartbeats 2000000 in
theorem backward_in (F:Fence) (n:Nat) (hf:F.fn 189) (hro:F.round = none) (a:Option Addr) (len cap:Nat) (w:World) :
 CallsIn F n Tryz.prog 189 #[.slice a len cap] w fun e w' => e = .returned (.func (.func 235) #[] #[.pointer (some ⟨w.heap.size,0,none⟩)]) ∧ w' = w.alloc (.cells #[.slice a len cap] 213):=by
 refine callsIn_of_wp Tryz.func189 rfl hf ?_ hro
 simp only [Tryz.ntmps189,List.size_toArray,List.length_cons,List.length_nil,Nat.reduceAdd,Nat.reduceSub,Array.replicate_succ,Array.replicate_zero,List.push_toArray,List.append_toArray,List.nil_append,List.cons_append]
 gi_wp2
 go_ret
 exact ⟨rfl,rfl⟩
set_option maxHeartbeats 4000000 in
theorem backward_seq (F:Fence) (n:Nat) (hf:F.fn 235) (hro:F.round = none) (hn:1 ≤ n) (S:Nat → Prop) (B b off cap:Nat) (vs:List Value) (w:World) (hlen:vs.length ≤ 1000000)
 (hB:¬ S B) (hb:¬ S b) (hBl:B < w.heap.size) (hbl:b < w.heap.size) (hc:w.cell? ⟨B,0,none⟩ = some (.slice (some ⟨b,off,none⟩) vs.length cap)) (hv:∀ j v,vs[j]? = some v → w.cell? ⟨b,off + j,none⟩ = some v) :
 SeqPos F n Tryz.prog 235 #[.pointer (some ⟨B,0,none⟩)] (fun k => #[.int .i64 ((vs.length - 1 - k:Nat):Int),vs.getD (vs.length - 1 - k) .nilIface]) S vs.length w:=by
 intro l J W hW hY h0
 have HW:=hide hW
 have HY:=hide hY
 have hc1:W.cell? ⟨B,0,none⟩ = some (.slice (some ⟨b,off,none⟩) vs.length cap):=(hW.cell (p:=⟨B,0,none⟩) hBl).trans hc
 have HV:=hide hv
 clear hY hv hc hW
 refine callsIn_of_wp Tryz.func235 rfl hf ?_ hro
 simp only [Tryz.ntmps235,List.size_toArray,List.length_cons,List.length_nil,Nat.reduceAdd,Nat.reduceSub,Array.replicate_succ,Array.replicate_zero,List.push_toArray,List.append_toArray,List.nil_append,List.cons_append]
 gi_wp2
 gi_loopw [3] (fun vi wr => ∃ (k:Nat),k ≤ vs.length ∧ vi = .int .i64 ((vs.length:Int) - 1 - (k:Int)) ∧ Hid (J k wr) ∧ Hid (Fr S W wr)) (fun vi _ => (intOf vi + 1).toNat)
 case atStart => exact ⟨0,by omega,by simp,h0,Fr.refl _ _⟩
 case round =>
  obtain ⟨k,hk,rfl,hJ,hF⟩:=hrel
  by_cases hlt:k < vs.length
  · obtain ⟨i,hi⟩:∃ i,i = vs.length - 1 - k:=⟨_,rfl⟩
    have hiI:(vs.length:Int) - 1 - (k:Int) = (i:Int):=by omega
    have hil:i < vs.length:=by omega
    obtain ⟨v,hvi⟩:∃ v,vs[i]? = some v:=⟨vs[i],by simp [hil]⟩
    have c1:wr.cell? ⟨B,0,none⟩ = some (.slice (some ⟨b,off,none⟩) vs.length cap):=hF.out.cell hB hc1
    have c2:wr.cell? ⟨b,off + i,none⟩ = some v:=hF.out.cell hb ((HW.out.cell (p:=⟨b,off + i,none⟩) hbl).trans (HV.out i v hvi))
    have hy:=HY.out k wr hlt hJ.out
    rw [← hi,show vs.getD i .nilIface = v by rw [List.getD_eq_getElem?_getD,hvi];rfl] at hy
    obtain ⟨fn,tmps,assign,body,hy,hR⟩:=hy
    have HI:=hide hi
    clear hi hvi
    have d0:decide ((0:Int) ≤ (i:Int)) = true:=decide_eq_true (by omega)
    gi_wp2
    refine hR.mono ?_
    rintro e W3 ⟨rfl,hJ3,hF3⟩
    have HJ3:=hide hJ3
    have HF3:=hide hF3
    clear hJ3 hF3 hR
    gi_wp2
    go_roundw
    case rel => exact ⟨k + 1,by omega,v_int (by omega),HJ3,hide (hF.out.trans HF3.out (fun _ h => .inl h))⟩
    case measure => simp [intOf];omega
  · obtain rfl:k = vs.length:=by omega
    have d0:decide ((0:Int) ≤ (vs.length:Int) - 1 - (vs.length:Int)) = false:=decide_eq_false (by omega)
    have d1:(vs.length:Int) - 1 - (vs.length:Int) = -1:=by omega
    gi_wp2
    go_end0
    exact ⟨⟨_,rfl⟩,hJ.out⟩
attribute [local go_sem] Oper.semAt_some
def bump1 (c:List Nat) (x:It):List Nat:=if 0 ≤ x.leaf then c.set x.leaf.toNat (c.getD x.leaf.toNat 0 + 1) else c
def bump (c:List Nat) (l:List It):List Nat:=l.foldl bump1 c
def pkN (l:List It):Nat:=(l.filter fun x => decide (x.leaf < 0)).length
def stepC (s:Nat × List Nat) (l:List It):Nat × List Nat:=(2 * pkN (l.take s.1),bump s.2 (l.take s.1))
def stC (n:Nat) (ls:List (List It)):Nat × List Nat:=ls.foldl stepC (2 * n - 2,List.replicate n 0)
def LvV (w:World) (B:Nat) (lvs:List (List It)) (vs:List Value):Prop :=
 vs.length = lvs.length ∧ ∀ (j:Nat) l,lvs[j]? = some l → ∃ A c,vs[j]? = some (.slice A l.length c) ∧ l.length ≤ c ∧ RdI w B A l
theorem bump_snoc (c:List Nat) (l:List It) (x:It):bump c (l ++ [x]) = bump1 (bump c l) x:=by unfold bump;rw [List.foldl_append];rfl
theorem bump1_length (c:List Nat) (x:It):(bump1 c x).length = c.length:=by unfold bump1;split <;> simp
theorem bump_length (c:List Nat) (l:List It):(bump c l).length = c.length:=by
 induction l generalizing c with
 | nil => rfl
 | cons x l ih => show (bump (bump1 c x) l).length = _;rw [ih,bump1_length]
theorem pkN_snoc (l:List It) (x:It):pkN (l ++ [x]) = pkN l + (if x.leaf < 0 then 1 else 0):=by
 unfold pkN
 rw [List.filter_append,List.length_append]
 congr 1
 by_cases h:x.leaf < 0
 · rw [if_pos h,List.filter_cons,if_pos (decide_eq_true h)];rfl
 · rw [if_neg h,List.filter_cons,if_neg (by rw [decide_eq_false h];decide)];rfl
theorem bump1_le {c:List Nat} {x:It} {K:Nat} (h:∀ y ∈ c,y ≤ K):∀ y ∈ bump1 c x,y ≤ K + 1:=by
 intro y hy
 unfold bump1 at hy
 split at hy
 · rcases List.mem_or_eq_of_mem_set hy with hy | rfl
   · have:=h y hy;omega
   · rw [List.getD_eq_getElem?_getD]
     cases hg:c[x.leaf.toNat]? with
     | none => simp
     | some z => have:=h z (List.mem_of_getElem? hg);simp;omega
 · have:=h y hy;omega
theorem bump_le {l:List It}:∀ {c:List Nat} {K:Nat},(∀ y ∈ c,y ≤ K) → ∀ y ∈ bump c l,y ≤ K + l.length:=by
 induction l with
 | nil => intro c K h y hy;exact h y hy
 | cons x l ih =>
   intro c K h y hy
   have:=ih (bump1_le (x:=x) h) y hy
   rw [List.length_cons];omega
theorem stC_snoc (m:Nat) (ls:List (List It)) (l:List It):stC m (ls ++ [l]) = stepC (stC m ls) l:=by unfold stC;rw [List.foldl_append];rfl
theorem stC_length (m:Nat) (ls:List (List It)):(stC m ls).2.length = m:=by
 unfold stC
 have:∀ (s:Nat × List Nat),(ls.foldl stepC s).2.length = s.2.length:=by
  induction ls with
  | nil => intro s;rfl
  | cons l ls ih => intro s;rw [List.foldl_cons,ih];show (bump s.2 _).length = _;rw [bump_length]
 rw [this];simp
theorem stC_le (m:Nat) (ls:List (List It)) (h:∀ l ∈ ls,l.length ≤ 1024):∀ y ∈ (stC m ls).2,y ≤ 1024 * ls.length:=by
 unfold stC
 have:∀ (ls:List (List It)) (s:Nat × List Nat) (K:Nat),(∀ l ∈ ls,l.length ≤ 1024) → (∀ y ∈ s.2,y ≤ K) → ∀ y ∈ (ls.foldl stepC s).2,y ≤ K + 1024 * ls.length:=by
  intro ls
  induction ls with
  | nil => intro s K _ hs y hy;exact hs y hy
  | cons l ls ih =>
    intro s K hl hs y hy
    rw [List.foldl_cons] at hy
    have h1:∀ y ∈ (stepC s l).2,y ≤ K + 1024:=fun y hy => by
     have:=bump_le hs y hy
     have h2:=hl l (by simp)
     rw [List.length_take] at this;omega
    have:=ih (stepC s l) (K + 1024) (fun l hl' => hl l (List.mem_cons_of_mem _ hl')) h1 y hy
    rw [List.length_cons];omega
 intro y hy
 have:=this ls _ 0 h (fun y hy => by rw [List.mem_replicate] at hy;omega) y hy
 omega
theorem bk_from {β:Type} (B g:Nat) (t:TypeId) (cs:β → Array Value):OwnFrom B (fun (k:β) (W:World) => Bk W g t (cs k)):=by
 intro k A W row hs hg hr
 refine Bk.grown hs hg ?_
 intro e
 obtain ⟨_,o,ho,hc⟩:=hr g e.symm
 unfold Bk at hs
 rw [hs] at ho
 cases ho
 exact absurd hc (by simp [Obj.isCells])
set_option maxHeartbeats 8000000 in
theorem count_in (F:Fence) (n:Nat) (h53:F.fn 137) (h68:F.fn 189) (h72:F.fn 235) (hro:F.round = none) (hn:3 ≤ n)
 (b off cap m:Nat) (lvs:List (List It)) (vs:List Value) (w:World) (hb:b < w.heap.size) (hv:∀ j v,vs[j]? = some v → w.cell? ⟨b,off + j,none⟩ = some v) (hlv:LvV w w.heap.size lvs vs) (hm:m ≤ 512) (hm2:2 ≤ m) (hk:lvs.length ≤ 15)
 (hll:∀ l ∈ lvs,l.length ≤ 1024 ∧ ∀ x ∈ l,x.leaf < (m:Int)) (hst:∀ k l,lvs.reverse[k]? = some l → (stC m (lvs.reverse.take k)).1 ≤ l.length) :
 CallsIn F n Tryz.prog 137 #[.slice (some ⟨b,off,none⟩) vs.length cap,.int .i64 m] w fun e w' => ∃ A c,e = .returned (.slice A m c) ∧ Rd w' w'.heap.size A ((stC m lvs.reverse).2.map fun (x:Nat) => Value.int .i64 x) ∧ (∀ a,A = some a → w.heap.size ≤ a.block) ∧ Below w.heap.size w w':=by
 have h1:1 ≤ n:=by omega
 have hmk:=run_make_row' (P:=Tryz.prog) 74 3 (.int .i64 0) 8 Tryz.underlying74 info_int rfl .i64 .i64 m (by omega) (by omega)
 have HV:=hide hv
 have HLV:=hide hlv
 have HLL:=hide hll
 have HST:=hide hst
 clear hv hlv hll hst
 refine callsIn_of_wp_marks Tryz.func137 rfl h53 ?_ hro
 simp only [Tryz.ntmps137,List.size_toArray,List.length_cons,List.length_nil,Nat.reduceAdd,Nat.reduceSub,Array.replicate_succ,Array.replicate_zero,List.push_toArray,List.append_toArray,List.nil_append,List.cons_append]
 gi_wp2_with (gi_at_call 189;refine (backward_in F (n - 1) h68 hro _ _ _ _).mono ?_;rintro e w' ⟨rfl,rfl⟩)
 obtain ⟨W0,hW0⟩:∃ W0,W0 = ((((w.alloc (.cells (madeCells #[.int .i64 0] m) 3)).alloc (.cells #[.slice (some ⟨w.heap.size,0,none⟩) m m] 74)).alloc (.cells #[.int .i64 (2 * (m:Int) - 2)] 3)).alloc (.cells #[.slice (some ⟨b,off,none⟩) vs.length cap] 213)):=⟨_,rfl⟩
 have bG:Bk W0 w.heap.size 3 (madeCells #[.int .i64 0] m):=by rw [hW0];exact (((Bk.new w _ _).alloc _).alloc _).alloc _
 have b5:Bk W0 (w.heap.size + 1) 74 #[.slice (some ⟨w.heap.size,0,none⟩) m m]:=by rw [hW0];exact ((Bk.new1 w _ _ _).alloc _).alloc _
 have b6:Bk W0 (w.heap.size + 1 + 1) 3 #[.int .i64 (2 * (m:Int) - 2)]:=by rw [hW0];exact (Bk.new2 w _ _ _ _).alloc _
 have b7:W0.cell? ⟨w.heap.size + 1 + 1 + 1,0,none⟩ = some (.slice (some ⟨b,off,none⟩) vs.length cap):=by
  have:=Bk.new (((w.alloc (.cells (madeCells #[.int .i64 0] m) 3)).alloc (.cells #[.slice (some ⟨w.heap.size,0,none⟩) m m] 74)).alloc (.cells #[.int .i64 (2 * (m:Int) - 2)] 3)) 213 #[.slice (some ⟨b,off,none⟩) vs.length cap]
  rw [hW0]
  have e:=this.cell 0
  simpa using e
 have hz0:W0.heap.size = w.heap.size + 4:=by rw [hW0];simp
 have be0:Below w.heap.size w W0:=by rw [hW0];exact (((((Below.refl _ _).alloc (Nat.le_refl _) _).alloc (by simp) _).alloc (by simp;omega) _).alloc (by simp;omega) _)
 rw [← hW0]
 clear hW0 hmk
 refine range_pos hro h1 (gf:=235) (lb:=#[.pointer (some ⟨w.heap.size + 1 + 1 + 1,0,none⟩)]) rfl h72 (enters_of Tryz.func235 (by kernel_rfl) rfl)
  (S:=fun k => k = w.heap.size ∨ k = w.heap.size + 1 + 1 ∨ w.heap.size + 4 ≤ k) (fun _ => rfl) (fun k hk => .inr (.inr (by omega)))
  (backward_seq F (n - 1) h72 hro (by omega) _ (w.heap.size + 1 + 1 + 1) b off cap vs W0 (by have:=HLV.out.1;omega) (by omega) (by omega) (by omega) (by omega) b7 (fun j v hj => (be0.cell (p:=⟨b,off + j,none⟩) hb).trans (HV.out j v hj)))
  (fun k W => Bk W w.heap.size 3 (((stC m (lvs.reverse.take k)).2.map fun (x:Nat) => Value.int .i64 x).toArray) ∧ Bk W (w.heap.size + 1) 74 #[.slice (some ⟨w.heap.size,0,none⟩) m m] ∧ Bk W (w.heap.size + 1 + 1) 3 #[.int .i64 ((stC m (lvs.reverse.take k)).1:Nat)] ∧ Below w.heap.size w W)
  (OwnFrom.and (bk_from _ _ _ _) (OwnFrom.and (bk_from _ _ _ (fun _ => _)) (OwnFrom.and (bk_from _ _ _ _) (ownFrom_below (Nat.le_refl _) (by omega)))))
  ⟨?s1,b5, ?s2,be0⟩
  (fun k => { tmps:=#[.slice (some ⟨b,off,none⟩) vs.length cap,.int .i64 m,undef,undef,.slice none 0 0,.pointer (some ⟨w.heap.size + 1,0,none⟩),.pointer (some ⟨w.heap.size + 1 + 1,0,none⟩),undef,vs.getD (vs.length - 1 - k) .nilIface,undef,undef,undef,.int .i64 m,.slice (some ⟨w.heap.size,0,none⟩) m m,.int .i64 m,.int .i64 (2 * (m:Int)),.int .i64 (2 * (m:Int) - 2),.slice (some ⟨b,off,none⟩) vs.length cap,.func (.func 235) #[] #[.pointer (some ⟨w.heap.size + 1 + 1 + 1,0,none⟩)],.int .i64 ((vs.length - 1 - k:Nat):Int),vs.getD (vs.length - 1 - k) .nilIface,undef,undef,undef,undef,undef,undef,undef,undef,undef,undef,undef,undef,undef,undef,undef,undef,undef,undef,undef,undef,undef,undef,undef,undef],defers:=[] }) ?assign ?body ?done
 case s1 =>
  have:(((stC m (lvs.reverse.take 0)).2.map fun (x:Nat) => Value.int .i64 x).toArray) = madeCells #[.int .i64 0] m:=by
   apply Array.ext
   · simp [stC,size_madeCells]
   · intro i h1 h2;simp [madeCells,stC,Nat.mod_one]
  rw [this];exact bG
 case s2 =>
  have:((stC m (lvs.reverse.take 0)).1:Int) = 2 * (m:Int) - 2:=by simp [stC];omega
  rw [this];exact b6
 case assign =>
  intro l k W K hK
  gi_wp2
  exact hK
 case body =>
  rintro lr k W hk2 ⟨i1,i2,i3,i4⟩
  have hvl:=HLV.out.1
  obtain ⟨q,hq⟩:∃ q,q = vs.length - 1 - k:=⟨_,rfl⟩
  obtain ⟨l,hl⟩:∃ l,lvs[q]? = some l:=⟨lvs[q]'(by omega),by simp⟩
  have hrev:lvs.reverse[k]? = some l:=by rw [List.getElem?_reverse (by omega),← hl];congr 1;omega
  obtain ⟨A,c,hvq,hlc,hrd⟩:=HLV.out.2 q l hl
  have hget:vs.getD (vs.length - 1 - k) .nilIface = .slice A l.length c:=by rw [← hq,List.getD_eq_getElem?_getD,hvq];rfl
  rw [hget]
  obtain ⟨n0,hn0⟩:∃ n0,n0 = (stC m (lvs.reverse.take k)).1:=⟨_,rfl⟩
  obtain ⟨c0,hc0⟩:∃ c0,c0 = (stC m (lvs.reverse.take k)).2:=⟨_,rfl⟩
  have hn0l:n0 ≤ l.length:=by rw [hn0];exact HST.out k l hrev
  have hlm:=HLL.out l (List.mem_of_getElem? hl)
  have hstep:stC m (lvs.reverse.take (k + 1)) = (2 * pkN (l.take n0),bump c0 (l.take n0)):=by
   rw [List.take_add_one,hrev]
   show stC m (lvs.reverse.take k ++ [l]) = _
   rw [stC_snoc,hn0,hc0];rfl
  have hc0l:c0.length = m:=by rw [hc0];exact stC_length _ _
  have hc0b:∀ y ∈ c0,y ≤ 20000:=fun y hy => by
   rw [hc0] at hy
   have:=stC_le m (lvs.reverse.take k) (fun l' hl' => (HLL.out l' (by have:=List.mem_of_mem_take hl';simpa using this)).1) y hy
   have h2:(lvs.reverse.take k).length ≤ 15:=by rw [List.length_take];simp;omega
   omega
  rw [← hn0] at i3
  rw [← hc0] at i1
  have HStep:=hide hstep
  have HC0:=hide (And.intro hc0l hc0b)
  have HRd:=hide hrd
  have HLm:=hide hlm
  have p6:=i3.cell 0
  simp at p6
  have hn2:1 ≤ n - 1 - 1:=by omega
  have hll2:l.length ≤ 1024:=hlm.1
  have HI:=hide (And.intro i1 (And.intro i2 (And.intro i3 i4)))
  clear hget hvq hrev hl hq hn0 hc0 hstep hc0l hc0b hrd hlm i1 i2 i3 i4
  gi_wp2
  gi_loopw [9,25] (fun vp vt wx => ∃ (t P:Nat),t ≤ n0 ∧ P ≤ t ∧ vp = .int .i64 P ∧ vt = .int .i64 t ∧ Hid (P = pkN (l.take t)) ∧ Hid (Bk wx w.heap.size 3 (((bump c0 (l.take t)).map fun (x:Nat) => Value.int .i64 x).toArray)) ∧ Hid (Bk wx (w.heap.size + 1) 74 #[.slice (some ⟨w.heap.size,0,none⟩) m m]) ∧ Hid (Bk wx (w.heap.size + 1 + 1) 3 #[.int .i64 n0]) ∧ Hid (Below w.heap.size w wx) ∧ Hid (KeepsOthers W wx) ∧ Hid (Fr (fun k => k = w.heap.size ∨ k = w.heap.size + 1 + 1 ∨ w.heap.size + 4 ≤ k) W wx)) (fun _ vt _ => n0 - (intOf vt).toNat)
  case atStart => exact ⟨0,0,by omega,by omega,rfl,rfl,hide (by simp [pkN]),hide (by have:=HI.out.1;simpa [bump] using this),hide HI.out.2.1,hide HI.out.2.2.1,hide HI.out.2.2.2,hide (KeepsOthers.refl _),hide (Fr.refl _ _)⟩
  case round =>
   clear HI p6
   obtain ⟨t,P,ht,hPt,rfl,rfl,hP,HG,H5,H6,HB,HK,HF⟩:=hrel
   have hsz:=HB.out.size
   by_cases hlt:t < n0
   · obtain ⟨x,hx⟩:∃ x,l[t]? = some x:=⟨l[t]'(by omega),by simp⟩
     obtain ⟨b2,o2,hA2,hb2,x0,x1,x2⟩:=HRd.out.at_ hx
     subst hA2
     have z0:=(HB.out.cell (p:=⟨b2,o2 + t * 3,none⟩) hb2).trans x0
     have z1:=(HB.out.cell (p:=⟨b2,o2 + t * 3 + 1,none⟩) hb2).trans x1
     have z2:=(HB.out.cell (p:=⟨b2,o2 + t * 3 + 2,none⟩) hb2).trans x2
     have hxm:=HLm.out.2 x (List.mem_of_getElem? hx)
     have htk:l.take (t + 1) = l.take t ++ [x]:=by rw [List.take_add_one,hx];rfl
     have HTk:=hide htk
     have hc:=bump_length c0 (l.take t)
     rw [HC0.out.1] at hc
     have HCl:=hide hc
     have g5:=H5.out.cell 0
     simp at g5
     obtain ⟨xw,xl,xf⟩:=x
     simp only at z0 z1 z2 hxm
     clear x0 x1 x2 hx htk hc
     by_cases hl0:0 ≤ xl
     · obtain ⟨la,rfl⟩:=Int.eq_ofNat_of_zero_le hl0
       have dl:decide ((0:Int) ≤ (la:Int)) = true:=decide_eq_true (by omega)
       have hla:la < m:=by omega
       obtain ⟨y,hy⟩:∃ y,(bump c0 (l.take t))[la]? = some y:=⟨(bump c0 (l.take t))[la]'(by have:=HCl.out;omega),by simp⟩
       have hyb:y ≤ 40000:=by
        have:=bump_le (l:=l.take t) HC0.out.2 y (List.mem_of_getElem? hy)
        rw [List.length_take] at this;omega
       have gG:wr.cell? ⟨w.heap.size,la,none⟩ = some (.int .i64 y):=(HG.out.cell la).trans (by rw [List.getElem?_toArray,List.getElem?_map,hy];rfl)
       have gF:=HG.out.free la
       have hgl:=HG.out.lt
       have h5l:=H5.out.lt
       have HY:=hide hy
       clear hy
       gi_wp2
       go_roundw
       case rel =>
        refine ⟨t + 1,P,by omega,by omega,rfl,by go_num,hide ?_,hide ?_,hide ?_,hide ?_,hide ?_,hide ?_,hide ?_⟩
        · rw [HTk.out,pkN_snoc,if_neg (by show ¬ (la:Int) < 0;omega),hP.out];rfl
        · have:=(HG.out.set_ la (.int .i64 ((y:Int) + 1))).alloc (.cells #[.int .u64 xw,.int .i64 la,.int .i64 xf] 273)
          rw [HTk.out,bump_snoc]
          unfold bump1
          rw [if_pos (by show (0:Int) ≤ (la:Int);omega)]
          show Bk _ _ _ (((bump c0 (l.take t)).set la ((bump c0 (l.take t)).getD la 0 + 1)).map _).toArray
          rw [List.getD_eq_getElem?_getD,HY.out,List.map_set,← List.setIfInBounds_toArray]
          exact this
        · exact (H5.out.far (p:=⟨w.heap.size,la,none⟩) (by show w.heap.size + 1 ≠ w.heap.size;omega) _).alloc _
        · exact (H6.out.far (p:=⟨w.heap.size,la,none⟩) (by show w.heap.size + 1 + 1 ≠ w.heap.size;omega) _).alloc _
        · exact (HB.out.setCell (p:=⟨w.heap.size,la,none⟩) (Nat.le_refl _) _).alloc (by simpa using hsz) _
        · exact (HK.out.trans (KeepsOthers.setCell _ _ _)).trans (KeepsOthers.alloc _ _)
        · exact (HF.out.setCell (p:=⟨w.heap.size,la,none⟩) (.inl (.inl rfl)) _).alloc _
       case measure => simp [intOf];omega
     · have dl:decide ((0:Int) ≤ xl) = false:=decide_eq_false hl0
       gi_wp2
       go_roundw
       case rel =>
        refine ⟨t + 1,P + 1,by omega,by omega,by go_num,by go_num,hide ?_,hide ?_,hide (H5.out.alloc _),hide (H6.out.alloc _),hide (HB.out.alloc hsz _),hide (HK.out.trans (KeepsOthers.alloc _ _)),hide (HF.out.alloc _)⟩
        · rw [HTk.out,pkN_snoc,if_pos (by show xl < 0;omega),hP.out]
        · rw [HTk.out,bump_snoc]
          unfold bump1
          rw [if_neg (by show ¬ (0:Int) ≤ xl;exact hl0)]
          exact HG.out.alloc _
       case measure => simp [intOf];omega
   · obtain rfl:t = n0:=by omega
     have h6c:=H6.out.cell 0
     simp at h6c
     have h6f:=H6.out.free 0
     gi_wp2
     refine ⟨HK.out.trans (KeepsOthers.setCell _ _ _),HF.out.setCell (.inl (.inr (.inl rfl))) _, ?_, ?_, ?_, ?_⟩
     · rw [HStep.out];exact HG.out.far (by show w.heap.size ≠ w.heap.size + 1 + 1;omega) _
     · exact H5.out.far (by show w.heap.size + 1 ≠ w.heap.size + 1 + 1;omega) _
     · rw [HStep.out,← hP.out]
       have:=H6.out.set_ 0 (.int .i64 ((2 * P:Nat):Int))
       simpa using this
     · exact HB.out.setCell (by simp;omega) _
 case done =>
  rintro D W hD ⟨i1,i2,i3,i4⟩ hK
  have hvl:=HLV.out.1
  have p5:=i2.cell 0
  simp at p5
  have HI1:=hide i1
  clear i1 i2 i3
  gi_wp2
  refine ⟨by simp,.inl ⟨_,_,rfl,run_takeDeferred hK, ?_⟩⟩
  refine ⟨_,results_tmp rfl _ _ _,some ⟨w.heap.size,0,none⟩,m,rfl, ?_,(fun a ha => by cases ha;exact Nat.le_refl _),i4.trans (belowK_b (w:=w) (Nat.le_refl _) W D _ _ (by omega) hK rfl rfl)⟩
  have i1:=HI1.out
  rw [hvl,List.take_of_length_le (by simp)] at i1
  have i5:=i1.grown (grownBy_putObj' W D (.deferred none)) (by intro e;cases e;omega)
  intro i u hu
  exact ⟨w.heap.size,0,rfl,i5.lt,by rw [Nat.zero_add,i5.cell i,List.getElem?_toArray];exact hu⟩
open Go.RowKit
def lvls (lw:List Nat) (L:Nat):List (List It):=(List.range L).map (lvlL lw)
theorem lvls_length (lw:List Nat) (L:Nat):(lvls lw L).length = L:=by simp [lvls]
theorem lvls_get {lw:List Nat} {L j:Nat} (h:j < L):(lvls lw L)[j]? = some (lvlL lw j):=by simp [lvls,h]
theorem lvls_succ (lw:List Nat) (L:Nat):lvls lw (L + 1) = lvls lw L ++ [lvlL lw L]:=by simp [lvls,List.range_succ]
theorem lvls_rev {lw:List Nat} {L k:Nat} (h:k < L):(lvls lw L).reverse[k]? = some (lvlL lw (L - 1 - k)):=by
 rw [List.getElem?_reverse (by rw [lvls_length];exact h),lvls_length]
 exact lvls_get (by omega)
theorem leafIts_leaf {x:It} {k:Nat} {l:List Nat} (h:x ∈ leafIts k l):(k:Int) ≤ x.leaf ∧ x.leaf < (k:Int) + l.length:=by
 induction l generalizing k with
 | nil => simp [leafIts] at h
 | cons w l ih =>
   rw [leafIts] at h
   rcases List.mem_cons.1 h with rfl | h
   · simp;omega
   · have:=ih h;simp at this ⊢;omega
theorem pkgs_leaf {x:It}:∀ (n i:Nat) (l:List It),l.length ≤ n → x ∈ pkgs i l → x.leaf = -1:=by
 intro n
 induction n with
 | zero => intro i l h hx;have:l = []:=List.eq_nil_of_length_eq_zero (by omega);subst this;simp [pkgs] at hx
 | succ n ih =>
   intro i l h hx
   match l,h,hx with
   | [],_,hx => simp [pkgs] at hx
   | [_],_,hx => simp [pkgs] at hx
   | a :: b :: r,h,hx =>
     rw [pkgs] at hx
     rcases List.mem_cons.1 hx with rfl | hx
     · rfl
     · exact ih _ r (by simp at h;omega) hx
theorem nxtL_leaf {lw:List Nat} {lv:List It} {x:It} (h:x ∈ nxtL lw lv):x.leaf < (lw.length:Int):=by
 rcases mrg_mem h with h | h
 · have:=leafIts_leaf h;omega
 · have:=pkgs_leaf _ _ _ (Nat.le_refl _) h;omega
theorem lvlL_leaf {lw:List Nat} {j:Nat} {x:It} (h:x ∈ lvlL lw j):x.leaf < (lw.length:Int):=by
 cases j with
 | zero => exact nxtL_leaf h
 | succ j => exact nxtL_leaf h
theorem pkN_append (a b:List It):pkN (a ++ b) = pkN a + pkN b:=by unfold pkN;rw [List.filter_append,List.length_append]
theorem pkN_cons (x:It) (l:List It):pkN (x :: l) = (if x.leaf < 0 then 1 else 0) + pkN l:=by
 have:=pkN_append [x] l
 rw [List.singleton_append] at this
 rw [this]
 congr 1
 unfold pkN
 by_cases h:x.leaf < 0
 · rw [if_pos h,List.filter_cons,if_pos (decide_eq_true h)];rfl
 · rw [if_neg h,List.filter_cons,if_neg (by rw [decide_eq_false h];decide)];rfl
theorem pkN_mrg (ls ps:List It):pkN (mrg ls ps) = pkN ls + pkN ps:=by
 induction ls generalizing ps with
 | nil => rw [mrg];simp [pkN]
 | cons l ls ih =>
   induction ps with
   | nil => rw [mrg_nil];simp [pkN]
   | cons p ps ih2 =>
     by_cases h:l.w ≤ p.w
     · rw [mrg_le h,pkN_cons,ih,pkN_cons l];omega
     · rw [mrg_gt h,pkN_cons,ih2,pkN_cons p];omega
theorem pkN_leaves {l:List It} (h:∀ x ∈ l,0 ≤ x.leaf):pkN l = 0:=by
 unfold pkN
 rw [List.length_eq_zero_iff,List.filter_eq_nil_iff]
 intro x hx
 have:=h x hx
 simp;omega
theorem pkN_all {l:List It} (h:∀ x ∈ l,x.leaf = -1):pkN l = l.length:=by
 unfold pkN
 rw [List.filter_eq_self.2 (fun x hx => by rw [h x hx];rfl)]
theorem pkN_nxt (lw:List Nat) (lv:List It):pkN (nxtL lw lv) = lv.length / 2:=by
 unfold nxtL
 rw [pkN_mrg,pkN_leaves (fun x hx => by have:=leafIts_leaf hx;omega),pkN_all (fun x hx => pkgs_leaf _ _ _ (Nat.le_refl _) hx),pkgs_length _ _ _ (Nat.le_refl _)]
 omega
theorem pkN_take (l:List It) (k:Nat):pkN (l.take k) ≤ pkN l:=by
 conv => rhs;rw [← List.take_append_drop k l,pkN_append]
 omega
theorem lvl_lack {lw:List Nat} {L:Nat} (h:lw.length ≤ 2 ^ L):∀ j,j < L → ∃ d,(lvlL lw j).length + d = 2 * lw.length ∧ d ≤ 2 ^ (L - j):=by
 intro j
 induction j with
 | zero =>
   intro _
   refine ⟨lw.length, ?_,h⟩
   rw [lvlL,nxtL_length];simp;omega
 | succ j ih =>
   intro hj
   obtain ⟨d,h1,h2⟩:=ih (by omega)
   refine ⟨(d + 1) / 2, ?_, ?_⟩
   · rw [lvlL,nxtL_length];omega
   · have e:L - j = (L - (j + 1)) + 1:=by omega
     rw [e,Nat.pow_succ] at h2
     omega
theorem lvl_last {lw:List Nat} {L:Nat} (h:lw.length ≤ 2 ^ L) (hL:1 ≤ L):2 * lw.length - 2 ≤ (lvlL lw (L - 1)).length:=by
 obtain ⟨d,h1,h2⟩:=lvl_lack h (L - 1) (by omega)
 rw [show L - (L - 1) = 1 by omega] at h2
 omega
def cntL (lw:List Nat) (L:Nat):List Nat:=(stC lw.length (lvls lw L).reverse).2
theorem st_fits {lw:List Nat} {L:Nat} (h:lw.length ≤ 2 ^ L) {k:Nat} {l:List It} (hl:(lvls lw L).reverse[k]? = some l):(stC lw.length ((lvls lw L).reverse.take k)).1 ≤ l.length:=by
 have hk:k < L:=by
  have:=(List.getElem?_eq_some_iff.1 hl).1
  rw [List.length_reverse,lvls_length] at this;exact this
 have hl2:l = lvlL lw (L - 1 - k):=by rw [lvls_rev hk] at hl;simpa using hl.symm
 cases k with
 | zero =>
   rw [hl2]
   show 2 * lw.length - 2 ≤ _
   exact lvl_last h (by omega)
 | succ k =>
   have hp:(lvls lw L).reverse.take (k + 1) = (lvls lw L).reverse.take k ++ [lvlL lw (L - 1 - k)]:=by rw [List.take_add_one,lvls_rev (by omega)];rfl
   rw [hp,stC_snoc,hl2]
   show 2 * pkN ((lvlL lw (L - 1 - k)).take _) ≤ _
   have h1:=pkN_take (lvlL lw (L - 1 - k)) (stC lw.length ((lvls lw L).reverse.take k)).1
   have e:L - 1 - k = (L - 1 - (k + 1)) + 1:=by omega
   rw [e,lvlL,pkN_nxt] at h1
   rw [e,lvlL]
   omega
theorem cntL_length (lw:List Nat) (L:Nat):(cntL lw L).length = lw.length:=stC_length _ _
def fill (z:List Nat) (ps:List (Nat × Nat)):List Nat:=ps.foldl (fun c p => c.set p.1 p.2) z
theorem fill_length (z:List Nat) (ps:List (Nat × Nat)):(fill z ps).length = z.length:=by
 unfold fill
 induction ps generalizing z with
 | nil => rfl
 | cons p ps ih => rw [List.foldl_cons,ih,List.length_set]
theorem fill_snoc (z:List Nat) (ps:List (Nat × Nat)) (p:Nat × Nat):fill z (ps ++ [p]) = (fill z ps).set p.1 p.2:=by unfold fill;rw [List.foldl_append];rfl
def packW (ws:List Int) (lim:Int):Int:=if alphaB ws = true ∧ 1 ≤ lim ∧ lim ≤ 15 then if 2 ^ lim.toNat < (ordL ws).length then 8 else 0 else 1
def packL (ws:List Int) (L:Nat):List Nat :=
 if (ordL ws).length = 0 then List.replicate ws.length 0
 else if (ordL ws).length = 1 then (List.replicate ws.length 0).set ((ordL ws).getD 0 0) 1
 else fill (List.replicate ws.length 0) ((ordL ws).zip (cntL (lwL ws) L))
theorem packL_length (ws:List Int) (L:Nat):(packL ws L).length = ws.length:=by
 unfold packL
 split
 · simp
 · split
   · simp
   · rw [fill_length];simp
theorem count_any (b off cap m:Nat) (lvs:List (List It)) (vs:List Value) (w:World) (hb:b < w.heap.size) (hv:∀ j v,vs[j]? = some v → w.cell? ⟨b,off + j,none⟩ = some v) (hlv:LvV w w.heap.size lvs vs) (hm:m ≤ 512) (hm2:2 ≤ m) (hk:lvs.length ≤ 15)
 (hll:∀ l ∈ lvs,l.length ≤ 1024 ∧ ∀ x ∈ l,x.leaf < (m:Int)) (hst:∀ k l,lvs.reverse[k]? = some l → (stC m (lvs.reverse.take k)).1 ≤ l.length) :
 Calls Tryz.prog 137 #[.slice (some ⟨b,off,none⟩) vs.length cap,.int .i64 m] w fun e w' => ∃ A c,e = .returned (.slice A m c) ∧ Rd w' w'.heap.size A ((stC m lvs.reverse).2.map fun (x:Nat) => Value.int .i64 x) ∧ (∀ a,A = some a → w.heap.size ≤ a.block) ∧ Below w.heap.size w w' :=
 callsIn_wide.1 (count_in Fence.wide 3 trivial trivial trivial rfl (Nat.le_refl _) b off cap m lvs vs w hb hv hlv hm hm2 hk hll hst)
theorem bits_any (lim:Int) (w:World):Calls Tryz.prog 134 #[.int .i64 lim] w fun e w' => e = .returned (.bool (decide (1 ≤ lim ∧ lim ≤ 15))) ∧ w' = w:=by
 obtain ⟨v,hv⟩:∃ v,v = decide (1 ≤ lim ∧ lim ≤ 15):=⟨_,rfl⟩
 rw [← hv]
 have HV:=hide hv
 clear hv
 go_enter Tryz.func134,Tryz.ntmps134
 go_wp2
 all_goals
  go_ret
  refine ⟨ret_bool ?_,rfl⟩
  rw [HV.out]
  first
   | (symm;apply decide_eq_true;constructor <;> omega)
   | (symm;apply decide_eq_false;omega)
   | (rw [decide_eq_decide];omega)
theorem own_apart {w:World} {b1 b2 e1 e2 s1 s2 n1 n2:Nat} {v1 v2:Value} {x1 x2:List Value} (h1:w.ownsRow b1 e1 s1 v1 n1 x1) (h2:w.ownsRow b2 e2 s2 v2 n2 x2) (hne:e1 ≠ e2):v1.ownBlock = none ∨ v1.ownBlock ≠ v2.ownBlock:=by
 rcases h1.2 with ⟨rfl,_⟩ | ⟨g,cap,cur,rfl,_,hg,_⟩
 · exact .inl rfl
 · refine .inr fun e => ?_
   rcases h2.2 with ⟨rfl,_⟩ | ⟨g',cap',cur',rfl,_,hg',_⟩
   · cases e
   · obtain rfl:g = g':=by simpa [Value.ownBlock] using e
     rw [hg] at hg'
     simp only [Option.some.injEq,Obj.cells.injEq] at hg'
     exact hne hg'.2.1
theorem own_rdN {w:World} {base e size n c m:Nat} {A:Option Addr} {xs:List Value} (h:w.ownsRow base e size (.slice A n c) m xs):Rd w w.heap.size A xs ∧ n ≤ c:=by
 rcases h.2 with ⟨hv,hn⟩ | ⟨g,cap,cur,hv,hb,hg,hc,_⟩
 · have h1:=h.1
   rw [hn] at h1
   have hx:xs = []:=List.eq_nil_of_length_eq_zero (by simpa using h1)
   simp only [Value.slice.injEq] at hv
   refine ⟨by rw [hx];exact Rd.nil_,by omega⟩
 · simp only [Value.slice.injEq] at hv
   obtain ⟨rfl,rfl,rfl⟩:=hv
   refine ⟨fun i u hu => ?_,hc⟩
   refine ⟨g,0,rfl,(Array.getElem?_eq_some_iff.1 hg).1, ?_⟩
   have:=h.cells (g:=g) rfl i u hu
   rw [Addr.add_lit] at this
   exact this
def LvO (w:World) (base:Nat) (lvs:List (List It)) (vs:List Value):Prop :=
 vs.length = lvs.length ∧ ∀ (j:Nat) l,lvs[j]? = some l → ∃ A c,vs[j]? = some (.slice A l.length c) ∧ w.ownsRow base 273 3 (.slice A l.length c) l.length (flatV l)
section
variable {w w':World} {base:Nat} {lvs:List (List It)} {vs:List Value}
theorem LvO.map (h:LvO w base lvs vs) (f:∀ {v:Value} {n:Nat} {xs:List Value},w.ownsRow base 273 3 v n xs → w'.ownsRow base 273 3 v n xs):LvO w' base lvs vs :=
 ⟨h.1,fun j l hl => by obtain ⟨A,c,h1,h2⟩:=h.2 j l hl;exact ⟨A,c,h1,f h2⟩⟩
theorem LvO.alloc (h:LvO w base lvs vs) (o:Obj):LvO (w.alloc o) base lvs vs:=h.map fun k => k.alloc o
theorem LvO.below (h:LvO w base lvs vs) (hb:Below w.heap.size w w'):LvO w' base lvs vs:=h.map fun k => own_fr k (Fr.below hb (fun _ => False)) (fun _ _ h => h)
theorem LvO.grown {b2 s2 n2:Nat} {v2:Value} {x2:List Value} (h:LvO w base lvs vs) (h2:w.ownsRow b2 211 s2 v2 n2 x2) (hg:w.grownBy w' v2.ownBlock):LvO w' base lvs vs :=
 h.map fun k => k.kept hg (own_apart k h2 (by decide))
theorem LvO.snoc (h:LvO w base lvs vs) {A:Option Addr} {c:Nat} {l:List It} (hn:w.ownsRow base 273 3 (.slice A l.length c) l.length (flatV l)):LvO w base (lvs ++ [l]) (vs ++ [.slice A l.length c]):=by
 refine ⟨by simp [h.1],fun j l' hl => ?_⟩
 rcases Nat.lt_or_ge j lvs.length with hj | hj
 · rw [List.getElem?_append_left hj] at hl
   obtain ⟨A',c',h1,h2⟩:=h.2 j l' hl
   exact ⟨A',c',by rw [List.getElem?_append_left (by rw [h.1];exact hj)];exact h1,h2⟩
 · rw [List.getElem?_append_right hj] at hl
   have hj0:j - lvs.length = 0:=by
    rcases Nat.eq_zero_or_pos (j - lvs.length) with e | e
    · exact e
    · rw [List.getElem?_eq_none (by simp;omega)] at hl;cases hl
   rw [hj0] at hl
   simp at hl
   subst hl
   exact ⟨A,c,by rw [List.getElem?_append_right (by rw [h.1];exact hj),h.1,hj0];rfl,hn⟩
theorem LvO.reads (h:LvO w base lvs vs):LvV w w.heap.size lvs vs :=
 ⟨h.1,fun j l hl => by obtain ⟨A,c,h1,h2⟩:=h.2 j l hl;have h3:=own_rdN h2;exact ⟨A,c,h1,h3.2,h3.1⟩⟩
end
theorem info_items:(Tryz.prog.info? 211).map (fun i => (i.zero,i.size,i.bytes)) = some (some (.slice none 0 0),1,24):=by kernel_rfl
theorem own_some {w:World} {base e size n:Nat} {v:Value} {xs:List Value} (h:w.ownsRow base e size v n xs) (hn:0 < n):∃ g c,v = .slice (some ⟨g,0,none⟩) n c ∧ base ≤ g ∧ g < w.heap.size:=by
 rcases h.2 with ⟨_,hn'⟩ | ⟨g,cap,cur,hv,hb,hg,_⟩
 · omega
 · exact ⟨g,cap,hv,hb,(Array.getElem?_eq_some_iff.1 hg).1⟩
def LenP (ws:List Int) (lim:Int) (w:World) (e:Ending) (w':World):Prop :=
 Below w.heap.size w w' ∧
 ((packW ws lim = 0 ∧ ∃ A c,e = .returned (.tuple #[.slice A ws.length c,.int .i64 0]) ∧ Rd w' w'.heap.size A ((packL ws lim.toNat).map fun (x:Nat) => Value.int .i64 x) ∧ (∀ a,A = some a → w.heap.size ≤ a.block)) ∨
  (packW ws lim ≠ 0 ∧ e = .returned (.tuple #[.slice none 0 0,.int .i64 (packW ws lim)])))
theorem LenP.bad {ws:List Int} {lim k:Int} {w w':World} (h:packW ws lim = k) (hk:k ≠ 0) (hb:Below w.heap.size w w'):LenP ws lim w (.returned (.tuple #[.slice none 0 0,.int .i64 k])) w' :=
 ⟨hb,.inr ⟨by rw [h];exact hk,by rw [h]⟩⟩
theorem bk_nats {w:World} {g:Nat} {t:TypeId} {l:List Nat} (h:Bk w g t ((l.map fun (x:Nat) => Value.int .i64 x)).toArray):Rd w w.heap.size (some ⟨g,0,none⟩) (l.map fun (x:Nat) => Value.int .i64 x):=fun i u hu =>
 ⟨g,0,rfl,h.lt,by rw [Nat.zero_add,h.cell i,List.getElem?_toArray];exact hu⟩
theorem zeros_made (n:Nat):((List.replicate n 0).map fun (x:Nat) => Value.int .i64 x).toArray = madeCells #[.int .i64 0] n:=by
 apply Array.ext
 · simp [size_madeCells]
 · intro i h1 h2;simp [madeCells,Nat.mod_one]
theorem one_made (n o:Nat):(madeCells #[.int .i64 0] n).setIfInBounds o (.int .i64 1) = (((List.replicate n 0).set o 1).map fun (x:Nat) => Value.int .i64 x).toArray:=by
 rw [← zeros_made,List.setIfInBounds_toArray,List.map_set];rfl
set_option maxHeartbeats 8000000 in
theorem lengths_any (A:Option Addr) (ws:List Int) (ca:Nat) (lim:Int) (w:World) (hA:Rd w w.heap.size A (ws.map (.int .u64))) (hla:ws.length ≤ 9223372036854775807) (hws:∀ x ∈ ws,0 ≤ x) (hlim:I64 lim) :
 Calls Tryz.prog 89 #[.slice A ws.length ca,.int .i64 lim] w (LenP ws lim w):=by
 obtain ⟨l1,l2⟩:=hlim
 have al:=alphabet_any A ws ca w hA hla
 have bt:=fun W => bits_any lim W
 have HA:=hide hA
 by_cases ha:alphaB ws = true
 · obtain ⟨h512,hmax⟩:=alphaB_at ha
   rw [ha] at al
   have HAl:=hide al
   by_cases hl:1 ≤ lim ∧ lim ≤ 15
   · rw [decide_eq_true hl] at bt
     have HBt:=hide bt
     obtain ⟨L,rfl⟩:=Int.eq_ofNat_of_zero_le (show 0 ≤ lim by omega)
     have g1:1 ≤ L:=by omega
     have g2:L ≤ 15:=by omega
     have hpow:2 ^ L ≤ 2 ^ 15:=Nat.pow_le_pow_right (by omega) g2
     obtain ⟨P,hP⟩:∃ P:Nat,2 ^ L = P:=⟨_,rfl⟩
     have hP':(2:Int) ^ L = P:=by rw [← hP,Int.natCast_pow];rfl
     rw [hP] at hpow
     obtain ⟨N,hN⟩:∃ N,N = (ordL ws).length:=⟨_,rfl⟩
     have hW:packW ws L = if P < N then 8 else 0:=by
      unfold packW
      rw [if_pos ⟨ha,hl.1,hl.2⟩,Int.toNat_natCast,hP,← hN]
     have hNl:N ≤ ws.length:=by rw [hN];exact ordL_length ws
     have lv:=leaves_any A ws ca w hA h512 hws
     rw [← hN] at lv
     have hmk:=run_make_row' (P:=Tryz.prog) 74 3 (.int .i64 0) 8 Tryz.underlying74 info_int rfl .i64 .i64 ws.length (by omega) (by omega)
     have HLv:=hide lv
     have HW:=hide hW
     have HP:=hide hP
     have HN:=hide hN
     have HM:=hide (And.intro hmax hws)
     clear al bt lv hW hP hN hmax hws hA ha hl
     by_cases gP:P < N
     · have hW:=HW.out
       rw [if_pos gP] at hW
       have HW2:=hide hW
       clear hW
       have dP:decide ((P:Int) < (N:Int)) = true:=decide_eq_true (by omega)
       go_enter Tryz.func89,Tryz.ntmps89
       go_wp2_with (first | (go_at_call 133;refine (Calls.mono HAl.out ?_);rintro e w1 ⟨rfl,hww⟩;replace hww:=hww.symm;subst hww) | (go_at_call 134;refine (Calls.mono (HBt.out _) ?_);rintro e w1 ⟨rfl,hww⟩;replace hww:=hww.symm;subst hww) | (go_at_call 135;refine (Calls.mono HLv.out ?_);rintro e w1 ⟨O,co,rfl,hO,hOb,hb1⟩;have HO:=hide (And.intro hO hOb);have hz1:=hb1.size;clear hO hOb))
       go_ret2
       exact LenP.bad HW2.out (by decide) (hb1.alloc hz1 _)
     · have hW:=HW.out
       rw [if_neg gP] at hW
       have HW2:=hide hW
       clear hW
       have dP:decide ((P:Int) < (N:Int)) = false:=decide_eq_false (by omega)
       rcases (show N = 0 ∨ N = 1 ∨ 2 ≤ N by omega) with g0 | g0 | g0
       · subst g0
         have hpl:packL ws L = List.replicate ws.length 0:=by unfold packL;rw [if_pos HN.out.symm]
         have HPl:=hide hpl
         clear hpl
         go_enter Tryz.func89,Tryz.ntmps89
         go_wp2_with (first | (go_at_call 133;refine (Calls.mono HAl.out ?_);rintro e w1 ⟨rfl,hww⟩;replace hww:=hww.symm;subst hww) | (go_at_call 134;refine (Calls.mono (HBt.out _) ?_);rintro e w1 ⟨rfl,hww⟩;replace hww:=hww.symm;subst hww) | (go_at_call 135;refine (Calls.mono HLv.out ?_);rintro e w1 ⟨O,co,rfl,hO,hOb,hb1⟩;have HO:=hide (And.intro hO hOb);have hz1:=hb1.size;clear hO hOb))
         go_ret2
         refine ⟨hb1.alloc hz1 _,.inl ⟨HW2.out,some ⟨w1.heap.size,0,none⟩,ws.length,rfl, ?_,(fun a ha => by cases ha;exact hz1)⟩⟩
         rw [Int.toNat_natCast,HPl.out]
         exact bk_nats (by rw [zeros_made];exact Bk.new _ _ _)
       · subst g0
         have hpl:packL ws L = (List.replicate ws.length 0).set ((ordL ws).getD 0 0) 1:=by unfold packL;rw [if_neg (by rw [← HN.out];decide),if_pos HN.out.symm]
         obtain ⟨o0,ho0⟩:∃ o0,(ordL ws)[0]? = some o0:=⟨(ordL ws)[0]'(by rw [← HN.out];decide),by simp [← HN.out]⟩
         have ho1:=(ordL_lt (List.mem_of_getElem? ho0)).1
         have hg0:(ordL ws).getD 0 0 = o0:=by rw [List.getD_eq_getElem?_getD,ho0];rfl
         rw [hg0] at hpl
         have HPl:=hide hpl
         have HO0:=hide ho0
         clear hpl ho0 hg0
         go_enter Tryz.func89,Tryz.ntmps89
         go_wp2_with (first | (go_at_call 133;refine (Calls.mono HAl.out ?_);rintro e w1 ⟨rfl,hww⟩;replace hww:=hww.symm;subst hww) | (go_at_call 134;refine (Calls.mono (HBt.out _) ?_);rintro e w1 ⟨rfl,hww⟩;replace hww:=hww.symm;subst hww) | (go_at_call 135;refine (Calls.mono HLv.out ?_);rintro e w1 ⟨O,co,rfl,hO,hOb,hb1⟩;obtain ⟨bo,oo,rfl,hbo,co0⟩:=hO 0 (.int .i64 o0) (by rw [List.getElem?_map,HO0.out];rfl);rw [Nat.add_zero] at co0;have HO:=hide (And.intro hO hOb);have hz1:=hb1.size;have kg:=Bk.new w1 3 (madeCells #[.int .i64 0] ws.length);have kf:=kg.free o0;have kc:(w1.alloc (.cells (madeCells #[.int .i64 0] ws.length) 3)).cell? ⟨w1.heap.size,o0,none⟩ = some (.int .i64 0):=(kg.cell o0).trans (by rw [← zeros_made,List.getElem?_toArray];simp [ho1]);have HKg:=hide kg;clear hO hOb kg))
         go_ret2
         refine ⟨hb1.alloc hz1 _,.inl ⟨HW2.out,some ⟨w1.heap.size,0,none⟩,ws.length,rfl, ?_,(fun a ha => by cases ha;exact hz1)⟩⟩
         rw [Int.toNat_natCast,HPl.out]
         refine bk_nats (t:=3) ?_
         rw [← one_made]
         exact Bk.new _ _ _
       · have hlw:(lwL ws).length = N:=by rw [lwL_length,HN.out]
         have hpl:packL ws L = fill (List.replicate ws.length 0) ((ordL ws).zip (cntL (lwL ws) L)):=by unfold packL;rw [if_neg (by have:=HN.out;omega),if_neg (by have:=HN.out;omega)]
         have HPl:=hide hpl
         have HLw:=hide hlw
         have lww:∀ x ∈ lwL ws,x ≤ 1099511627776:=by
          intro x hx
          unfold lwL at hx
          obtain ⟨i,hi,rfl⟩:=List.mem_map.1 hx
          have h1:=ordL_lt hi
          have h2:=HM.out.1 (ws.getD i 0) (by rw [List.getD_eq_getElem?_getD,List.getElem?_eq_getElem h1.1];exact List.getElem_mem _)
          omega
         have HLww:=hide lww
         have nx:∀ (O:Option Addr) (co:Nat) (w1:World),Below w.heap.size w w1 → Rd w1 w1.heap.size O ((ordL ws).map fun (x:Nat) => Value.int .i64 x) → ∀ (V:Option Addr) (cv:Nat) (l:List It) (W:World),Below w1.heap.size w1 W → RdI W W.heap.size V l → l.length ≤ 1024 → (∀ x ∈ l,x.w ≤ 1152921504606846976) →
          Calls Tryz.prog 136 #[.slice A ws.length ca,.slice O N co,.slice V l.length cv] W (NextLP (nxtL (lwL ws) l) W):=by
          intro O co w1 hb1 hO V cv l W hW hV hl1 hl2
          have:=next_lv A O V ws (ordL ws) l ca co cv W ((HA.out.below (hb1.trans (hW.mono hb1.size))).more (Nat.le_trans hb1.size hW.size)) ((hO.below hW).more hW.size) hV h512 (by have:=ordL_length ws;omega) hl1 (fun x hx => (ordL_lt hx).1) (fun x hx => ⟨HM.out.2 x hx,HM.out.1 x hx⟩) hl2
          rw [← HN.out] at this
          exact this
         have HNx:=hide nx
         have dn1:((N:Int) == 1) = false:=by simp;omega
         have dn0:((N:Int) == 0) = false:=by simp;omega
         clear hpl hlw lww nx
         go_enter Tryz.func89,Tryz.ntmps89
         go_wp2_with (first | (go_at_call 133;refine (Calls.mono HAl.out ?_);rintro e w1 ⟨rfl,hww⟩;replace hww:=hww.symm;subst hww) | (go_at_call 134;refine (Calls.mono (HBt.out _) ?_);rintro e w1 ⟨rfl,hww⟩;replace hww:=hww.symm;subst hww) | (go_at_call 135;refine (Calls.mono HLv.out ?_);rintro e w1 ⟨O,co,rfl,hO,hOb,hb1⟩;have HO:=hide (And.intro hO hOb);have hz1:=hb1.size;have HB1:=hide hb1;have nx1:=HNx.out O co w1 hb1 hO;have HNx1:=hide nx1;clear hO hOb hb1 nx1) | (go_at_call 136;refine (Calls.mono (HNx1.out none 0 [] (w1.alloc (.cells (madeCells #[.int .i64 0] ws.length) 3)) ((Below.refl _ w1).alloc (Nat.le_refl _) _) Rd.nil_ (by simp) (by simp)) ?_);rintro e w2 ⟨A2,c2,rfl,hown2,hb2⟩;have HOw2:=hide hown2;have HB2:=hide hb2;clear hown2 hb2))
         obtain ⟨i0,hi,hz0',hz1',hz2'⟩:=info_parts info_items
         have hgo:w1.heap.size < w2.heap.size:=by have:=HB2.out.size;simp at this;omega
         go_loopw [9] (fun v wr => ∃ (k:Nat) (vs:List Value),1 ≤ k ∧ k ≤ L ∧ Hid (wr.ownsRow (w1.heap.size + 1) 211 1 v k vs) ∧ Hid (LvO wr (w1.heap.size + 1) (lvls (lwL ws) k) vs) ∧ Hid (Bk wr w1.heap.size 3 (madeCells #[.int .i64 0] ws.length)) ∧ Hid (Below w1.heap.size w1 wr)) (fun v _ => L - (match v with | .slice _ k _ => k | _ => 0))
         case atStart =>
          refine ⟨1,[.slice A2 (nxtL (lwL ws) []).length c2],by omega,g1,hide ?_,hide ?_,hide ?_,hide ?_⟩
          · exact World.ownsRow_lit w2 #[.slice A2 (nxtL (lwL ws) []).length c2] 1 (by omega) (by unfold maxLen;omega) rfl
          · have h0:LvO (w2.alloc (.cells #[.slice A2 (nxtL (lwL ws) []).length c2] 211)) (w1.heap.size + 1) [] []:=⟨rfl,fun j l hl => by simp at hl⟩
            have:=h0.snoc (own_base (HOw2.out.alloc _) (fun g hg => by have:=(HOw2.out.lt g hg).1;simpa using this))
            exact this
          · exact ((Bk.new w1 _ _).keep HB2.out).alloc _
          · exact ((((Below.refl _ w1).alloc (Nat.le_refl _) _).trans (HB2.out.mono (by simp))).alloc (by omega) _)
         case round =>
          clear HOw2 HB2
          obtain ⟨k,vs,hk1,hk2,HRow,HLvO,HGo,HBe⟩:=hrel
          obtain ⟨g,cv,rfl,hgb,hgl⟩:=own_some HRow.out (by omega)
          have hsz:=HBe.out.size
          have hol:=HGo.out.lt
          have hvl:vs.length = k:=by have:=HLvO.out.1;rw [lvls_length] at this;exact this
          by_cases hkL:k < L
          · have dkL:decide ((k:Int) < (L:Int)) = true:=decide_eq_true (by omega)
            obtain ⟨A2,c2,hv2,hown2⟩:=HLvO.out.2 (k - 1) (lvlL (lwL ws) (k - 1)) (lvls_get (by omega))
            have hc2:wr.cell? ⟨g,k - 1,none⟩ = some (.slice A2 (lvlL (lwL ws) (k - 1)).length c2):=by
             have:=HRow.out.cells (g:=g) rfl (k - 1) _ hv2
             rwa [Addr.add_lit,Nat.zero_add] at this
            obtain ⟨lv,hlv⟩:∃ lv,lv = lvlL (lwL ws) (k - 1):=⟨_,rfl⟩
            rw [← hlv] at hc2 hown2
            have hl1:lv.length ≤ 1024:=by
             have h1:=lvlL_length (lwL ws) (k - 1)
             rw [← hlv,HLw.out] at h1;omega
            have hl2:∀ x ∈ lv,x.w ≤ 1152921504606846976:=by
             intro x hx
             rw [hlv] at hx
             have h1:=lvlL_w HLww.out (k - 1) x hx
             have h2:2 ^ (k - 1 + 1) ≤ 2 ^ 15:=Nat.pow_le_pow_right (by omega) (by omega)
             have h3:=Nat.mul_le_mul_left 1099511627776 h2
             omega
            have nx2:=HNx1.out A2 c2 lv wr HBe.out (own_rdN hown2).1 hl1 hl2
            have hTk:nxtL (lwL ws) lv = lvlL (lwL ws) k:=by
             obtain ⟨q,rfl⟩:∃ q,k = q + 1:=⟨k - 1,by omega⟩
             rw [hlv];rfl
            obtain ⟨T,hT⟩:∃ T,T = nxtL (lwL ws) lv:=⟨_,rfl⟩
            rw [← hT] at nx2 hTk
            have HNx2:=hide nx2
            have HTk:=hide hTk
            have n1:(k:Int) - 1 = ((k - 1:Nat):Int):=by omega
            clear hv2 hown2 hlv hl1 hl2 nx2 hTk hT
            go_wp2_with (first
             | (go_at_call 136;refine (Calls.mono HNx2.out ?_);rintro e w3 ⟨A3,c3,rfl,hown3,hb3⟩;have HOw3:=hide hown3;have HB3:=hide hb3;have HRow3:=hide (own_fr HRow.out (Fr.below hb3 (fun _ => False)) (fun _ _ h => h));have hsz3:=hb3.size;clear hown3 hb3)
             | (at_builtin;refine wpList_append_own _ rfl (.tmp 52) (.tmp 62) 213 rfl (w1.heap.size + 1) 211 i0 (.slice none 0 0) 1 24 Tryz.underlying213 hi hz0' hz1' hz2' rfl (by decide) _ _ _ rfl (HRow3.out.alloc _) ⟨w3.heap.size,0,none⟩ 1 1 [.slice A3 T.length c3] rfl rfl (cell_one_new _ _ _) (by intro u hu;simp at hu;subst hu;rfl) (by unfold maxLen;omega) (by omega) (by simp;omega) ?_;intro v' w4 hown4 hgr4 _))
            have rowA:=HRow3.out.alloc (.cells #[.slice A3 T.length c3] 211)
            have lvA:=(HLvO.out.below HB3.out).alloc (.cells #[.slice A3 T.length c3] 211)
            have newA:=(own_base HOw3.out (base':=w1.heap.size + 1) (fun g hg => by have:=(HOw3.out.lt g hg).1;omega)).alloc (.cells #[.slice A3 T.length c3] 211)
            have goA:=(HGo.out.keep HB3.out).alloc (.cells #[.slice A3 T.length c3] 211)
            go_roundw
            case rel =>
             refine ⟨k + 1,vs ++ [.slice A3 T.length c3],by omega,by omega,hide hown4,hide ?_,hide ?_,hide ?_⟩
             · rw [lvls_succ,← HTk.out]
               exact (lvA.grown rowA hgr4).snoc (newA.kept hgr4 (own_apart newA rowA (by decide)))
             · exact goA.grown hgr4 (fun e => by have h9:some w1.heap.size = some g:=e;have:=Option.some.inj h9;omega)
             · exact (((HBe.out.trans (HB3.out.mono hsz)).alloc (by omega) _).grown hgr4 (by simp;omega) (fun g' hg' => by have h9:some g = some g':=hg';have:=Option.some.inj h9;omega))
            case measure =>
             obtain ⟨g',c',rfl,_,_⟩:=own_some hown4 (by omega)
             simp;omega
          · obtain rfl:k = L:=by omega
            have dkL:decide ((k:Int) < (k:Int)) = false:=decide_eq_false (by omega)
            have cells:=fun (j:Nat) (v:Value) (hj:vs[j]? = some v) => (show wr.cell? ⟨g,0 + j,none⟩ = some v by have:=HRow.out.cells (g:=g) rfl j v hj;rwa [Addr.add_lit] at this)
            have ct:=count_any g 0 cv N (lvls (lwL ws) k) vs wr hgl cells HLvO.out.reads (by omega) g0 (by rw [lvls_length];exact g2)
             (fun l hl => by
               obtain ⟨j,hj,rfl⟩:=List.mem_map.1 hl
               refine ⟨?_,fun x hx => ?_⟩
               · have h1:=lvlL_length (lwL ws) j
                 rw [HLw.out] at h1;omega
               · have:=lvlL_leaf hx
                 rw [HLw.out] at this;exact this)
             (fun j l hl => by
               have h1:=st_fits (lw:=lwL ws) (L:=k) (by rw [HLw.out,HP.out];omega) hl
               rw [HLw.out] at h1;exact h1)
            rw [hvl] at ct
            obtain ⟨cn,hcn⟩:∃ cn,cn = (stC N (lvls (lwL ws) k).reverse).2:=⟨_,rfl⟩
            rw [← hcn] at ct
            have hcl:cn.length = N:=by rw [hcn];exact stC_length _ _
            have hpl2:packL ws k = fill (List.replicate ws.length 0) ((ordL ws).zip cn):=by rw [HPl.out,hcn];unfold cntL;rw [HLw.out]
            have HCt:=hide ct
            have HCl:=hide hcl
            have HPl2:=hide hpl2
            clear ct hcl hcn hpl2 cells
            go_wp2_with (first | (go_at_call 137;refine (Calls.mono HCt.out ?_);rintro e w5 ⟨A5,c5,rfl,hr5,hf5,hb5⟩;have HR5:=hide (And.intro hr5 hf5);have HB5:=hide hb5;have hsz5:=hb5.size;have HGo5:=hide (HGo.out.keep hb5);clear hr5 hf5 hb5))
            go_loopw [69] (fun vi wx => ∃ i:Nat,i ≤ N ∧ vi = .int .i64 i ∧ Hid (Bk wx w1.heap.size 3 (((fill (List.replicate ws.length 0) (((ordL ws).zip cn).take i)).map fun (x:Nat) => Value.int .i64 x).toArray)) ∧ Hid (Fr (fun q => q = w1.heap.size) w5 wx)) (fun vi _ => N - (intOf vi).toNat)
            case atStart => exact ⟨0,by omega,rfl,hide (by rw [List.take_zero];show Bk _ _ _ ((List.replicate ws.length 0).map _).toArray;rw [zeros_made];exact HGo5.out),hide (Fr.refl _ _)⟩
            case round =>
             obtain ⟨i,hi,rfl,HG,HF⟩:=hrel
             by_cases hlt:i < N
             · obtain ⟨o,ho⟩:∃ o,(ordL ws)[i]? = some o:=⟨(ordL ws)[i]'(by have:=HN.out;omega),by simp⟩
               obtain ⟨z,hz⟩:∃ z,cn[i]? = some z:=⟨cn[i]'(by have:=HCl.out;omega),by simp⟩
               have hol2:=(ordL_lt (List.mem_of_getElem? ho)).1
               obtain ⟨bo,oo,hOe,hbo,co0⟩:=HO.out.1 i (.int .i64 o) (by rw [List.getElem?_map,ho];rfl)
               obtain ⟨b5,o5,hA5,hb5,ca5⟩:=HR5.out.1 i (.int .i64 z) (by rw [List.getElem?_map,hz];rfl)
               subst hOe hA5
               have hb5g:=HR5.out.2 _ rfl
               have hfi:(((ordL ws).zip cn).take (i + 1)) = (((ordL ws).zip cn).take i) ++ [(o,z)]:=by
                rw [List.take_add_one,List.getElem?_zip_eq_some.2 (show (ordL ws)[i]? = some (o,z).1 ∧ cn[i]? = some (o,z).2 from ⟨ho,hz⟩)];rfl
               have HFi:=hide hfi
               have bw5:Below w1.heap.size w1 w5:=HBe.out.trans (HB5.out.mono hsz)
               have c1:wr.cell? ⟨bo,oo + i,none⟩ = some (.int .i64 o):=HF.out.cell (by show ¬ bo = w1.heap.size;omega) ((bw5.cell (p:=⟨bo,oo + i,none⟩) hbo).trans co0)
               have c2:wr.cell? ⟨b5,o5 + i,none⟩ = some (.int .i64 z):=HF.out.cell (by show ¬ b5 = w1.heap.size;simp at hb5g;omega) ca5
               obtain ⟨fl,hfl⟩:∃ fl,fl = fill (List.replicate ws.length 0) (((ordL ws).zip cn).take i):=⟨_,rfl⟩
               have hfll:fl.length = ws.length:=by rw [hfl,fill_length];simp
               rw [← hfl] at HG
               obtain ⟨y,hy⟩:∃ y,fl[o]? = some y:=⟨fl[o]'(by omega),by simp⟩
               have c3:wr.cell? ⟨w1.heap.size,o,none⟩ = some (.int .i64 y):=(HG.out.cell o).trans (by rw [List.getElem?_toArray,List.getElem?_map,hy];rfl)
               have f3:=HG.out.free o
               have HFl:=hide hfl
               clear ho hz hfi hfl hfll hy bw5
               go_wp2_with fail
               go_roundw
               case rel =>
                refine ⟨i + 1,by omega,by go_num,hide ?_,hide (HF.out.setCell (.inl rfl) _)⟩
                rw [HFi.out,fill_snoc,← HFl.out]
                have:=HG.out.set_ o (.int .i64 (z:Nat))
                rw [List.setIfInBounds_toArray,← List.map_set (f:=fun (x:Nat) => Value.int .i64 x) (a:=z)] at this
                exact this
               case measure => simp [intOf];omega
             · go_wp2_with fail
               go_ret2
               have bw5:Below w1.heap.size w1 w5:=HBe.out.trans (HB5.out.mono hsz)
               refine ⟨(HB1.out.trans (bw5.mono hz1)).trans (HF.out.toBelowB (by rintro q rfl;exact hz1) (by have:=bw5.size;omega)),.inl ⟨HW2.out,some ⟨w1.heap.size,0,none⟩,ws.length,rfl, ?_,(fun a ha => by cases ha;exact hz1)⟩⟩
               rw [Int.toNat_natCast,HPl2.out]
               have hG:=HG.out
               rw [List.take_of_length_le (by rw [List.length_zip,HCl.out];omega)] at hG
               exact bk_nats hG
   · have hW:packW ws lim = 1:=by unfold packW;rw [if_neg (fun h => hl h.2)]
     rw [decide_eq_false hl] at bt
     have HBt:=hide bt
     have HW:=hide hW
     clear al bt hW ha hA
     go_enter Tryz.func89,Tryz.ntmps89
     go_wp2_with (first | (go_at_call 133;refine (Calls.mono HAl.out ?_);rintro e w1 ⟨rfl,hww⟩;replace hww:=hww.symm;subst hww) | (go_at_call 134;refine (Calls.mono (HBt.out _) ?_);rintro e w1 ⟨rfl,hww⟩;replace hww:=hww.symm;subst hww))
     go_ret2
     exact LenP.bad HW.out (by decide) (Below.refl _ _)
 · have ha':alphaB ws = false:=by simpa using ha
   have hW:packW ws lim = 1:=by unfold packW;rw [if_neg (fun h => ha h.1)]
   rw [ha'] at al
   have HAl:=hide al
   have HW:=hide hW
   clear al bt hW ha ha' hA
   go_enter Tryz.func89,Tryz.ntmps89
   go_wp2_with (first | (go_at_call 133;refine (Calls.mono HAl.out ?_);rintro e w1 ⟨rfl,hww⟩;replace hww:=hww.symm;subst hww))
   go_ret2
   exact LenP.bad HW.out (by decide) (Below.refl _ _)
structure QI where
 w:Nat
 V:Value
 v:List Nat
theorem bkRdQ {w:World} {g:Nat} {t:TypeId} {xs:List Value} (h:Bk w g t xs.toArray):Rd w w.heap.size (some ⟨g,0,none⟩) xs:=fun i u hu =>
 ⟨g,0,rfl,h.lt,by rw [Nat.zero_add,h.cell i,List.getElem?_toArray];exact hu⟩
theorem Bk.newAt {w:World} {g:Nat} {t:TypeId} {cs:Array Value} (h:w.heap.size = g):Bk (w.alloc (.cells cs t)) g t cs:=by
 subst h
 exact Bk.new _ _ _
theorem step_append_rd {P:Program} {ops:Array Oper} {o:Oper} {a:Act} {w:World} {K:Act → World → Prop} {Q:Exit → Act → World → Prop} {E:Prop} (hgd:o.guard = none) (s x:Operand) (t:TypeId)
 (ho:o.op = .call { callee:=.builtin .append,args:=#[s,x],argTypes:=#[t,t] })
 (base:Nat) (e:TypeId) (i:TypeInfo) (z:Value) (size bytes:Nat) (ht:P.underlying t = some (.slice e)) (hi:P.info? e = some i) (hz:i.zero = some z)
 (hsize:i.size = size) (hby:i.bytes = bytes) (hzs:z.cells.size = size) (hsz:0 < size)
 (v:Value) (n:Nat) (xs:List Value) (hs:a.eval s = v) (hown:w.ownsRow base e size v n xs)
 (A:Option Addr) (m c:Nat) (news:List Value) (hx:a.eval x = .slice A m c) (hA:A = none → c = 0) (hl:news.length = m * size) (hr:Rd w w.heap.size A news) (h1:∀ u ∈ news,u.oneCell' = true)
 (h63:n + m ≤ maxLen) (hbytes:(n + m) * bytes ≤ 140737488355328) (hbase:base ≤ w.heap.size)
 (h:∀ v' w',w'.ownsRow base e size v' (n + m) (xs ++ news) → w.grownBy w' v.ownBlock → K (a.put o.dst v') w') :
 if Region.wanted o (yielded ops a.tmps) = true then Oper.wp P o a w K Q else E:=by
 have hw:Region.wanted o (yielded ops a.tmps) = true:=by simp [Region.wanted,hgd]
 rw [if_pos hw]
 cases A with
 | some ad =>
   obtain ⟨v',w',hrun,r1,r2,_⟩:=run_append_own (P:=P) w base t o.type e i z size bytes ht hi hz hsize hby hzs hsz v n xs hown ad m c news hl (fun j u hu => by
    obtain ⟨b,off,e',_,hc⟩:=hr j u hu
    cases e'
    rw [Addr.add_lit];exact hc) h1 h63 hbytes hbase
   unfold Oper.wp
   simp [execOp,ho,resolve,invoke,builtin,hs,hx,hrun,Result.andThen]
   exact h v' w' r1 r2
 | none =>
   obtain rfl:=hA rfl
   obtain rfl:news = []:=by
    cases news with
    | nil => rfl
    | cons u us => obtain ⟨b,off,e',_⟩:=hr 0 u rfl;cases e'
   obtain rfl:m = 0:=by
    rcases Nat.mul_eq_zero.1 (show m * size = 0 by rw [← hl];rfl) with h | h
    · exact h
    · omega
   have hrun:=run_append_owned_none (P:=P) w base t o.type e i size ht hi v n xs hown
   unfold Oper.wp
   simp [execOp,ho,resolve,invoke,builtin,hs,hx,hrun,Result.andThen]
   rw [List.append_nil] at h
   exact h v w hown ⟨rfl,rfl,rfl,Nat.le_refl _,fun _ _ _ => rfl⟩
def u64V (x:Nat):Value:=.int .u64 (x:Nat)
theorem digitsL_len:∀ (f:Nat) {n:Nat},n ≤ f → (digitsL n).length ≤ n:=by
 intro f
 induction f with
 | zero =>
   intro n h
   have e:n = 0:=by omega
   rw [e,digitsL_zero]
   exact Nat.le_refl 0
 | succ f ih =>
   intro n h
   rcases Nat.eq_zero_or_pos n with rfl | hp
   · exact Nat.le_refl 0
   · rw [digitsL_pos hp,List.length_cons]
     have:=ih (n:=(n - 1) / 2) (by omega)
     omega
def Row (w:World) (v0 v:Value):Prop:=∀ g,v.ownBlock = some g → v0.ownBlock = some g ∨ w.heap.size ≤ g
set_option maxHeartbeats 1000000 in
theorem digits_any (base:Nat) (v0:Value) (xs:List Nat) (n:Nat) (w:World) (h:w.ownsRow base 22 1 v0 xs.length (xs.map u64V)) (hb:base ≤ w.heap.size) (hl:xs.length + n ≤ 1000000000) :
 Calls Tryz.prog 132 #[v0,.int .u64 n] w fun e w' => ∃ A c,e = .returned (.slice A (xs ++ digitsL n).length c) ∧ w'.ownsRow base 22 1 (.slice A (xs ++ digitsL n).length c) (xs ++ digitsL n).length ((xs ++ digitsL n).map u64V) ∧ Row w v0 (.slice A (xs ++ digitsL n).length c) ∧ Fr (fun g => v0.ownBlock = some g) w w':=by
 obtain ⟨i0,hi,hz0,hz1,hz2⟩:=info_parts info_u64
 have HO:=hide h
 clear h
 go_enter Tryz.func132,Tryz.ntmps132
 go_wp2_with fail
 go_loopw [0,1] (fun v i wr => ∃ (ys:List Nat) (m:Nat),i = .int .u64 m ∧ Hid (ys ++ digitsL m = xs ++ digitsL n) ∧ ys.length + m ≤ 1000000000 ∧ Hid (wr.ownsRow base 22 1 v ys.length (ys.map u64V)) ∧ Hid (Row w v0 v) ∧ Hid (Fr (fun g => v0.ownBlock = some g) w wr)) (fun _ i _ => (intOf i).toNat)
 case atStart => exact ⟨xs,n,rfl,hide rfl,hl,HO,hide (fun g hg => .inl hg),hide (Fr.refl _ _)⟩
 case round =>
  obtain ⟨ys,m,rfl,hys,hlm,hown,hrow,hfr⟩:=hrel
  have hz:=hfr.out.size
  by_cases h0:m = 0
  · subst h0
    have hf:=own_form3 hown.out
    have HO3:=hide hown.out
    have HY:=hide (show ys = xs ++ digitsL n by rw [← hys.out,digitsL_zero,List.append_nil])
    clear hown hys
    obtain ⟨A',c',rfl⟩:=hf
    go_wp2_with fail
    go_ret
    refine ⟨A',c', ?_⟩
    rw [← HY.out]
    exact ⟨rfl,HO3.out,hrow.out,hfr.out⟩
  · obtain ⟨q,hq⟩:∃ q,q = m - 1:=⟨_,rfl⟩
    obtain rfl:m = q + 1:=by omega
    have e1:(((q + 1:Nat):Int) - 1) = (q:Int):=by omega
    have HS:=hide (digitsL_pos (n:=q + 1) (by omega))
    clear hq
    go_wp2_with (at_builtin;refine wpList_append_lies _ rfl (.tmp 10) (.tmp 14) 93 rfl base 22 i0 (.int .u64 0) 1 8 Tryz.underlying93 hi hz0 hz1 hz2 rfl (by decide) _ _ _ rfl (hown.out.alloc _) ⟨wr.heap.size,0,none⟩ 1 1 [.int .u64 ((q % 2:Nat):Int)] rfl rfl (cell_one_new _ _ _) (by intro u hu;simp at hu;subst hu;rfl) (by decide) (by unfold maxLen;omega) (by omega) (by simp;omega) (wr.heap.size + 1) (by simp) ?_;intro g1 cap1 w2 hown2 hgr2 hat2 hlt2)
    go_roundw
    case rel =>
     refine ⟨ys ++ [q % 2],q / 2,v_int (by omega),hide ?_,by simp;omega,hide ?_,hide ?_,hide ?_⟩
     · rw [← hys.out,HS.out,List.append_assoc];rfl
     · rw [List.map_append,List.length_append];exact hown2
     · intro g hg
       rcases hat2 with h | h
       · rw [show (Value.slice (some ⟨g1,0,none⟩) (ys.length + 1) cap1).ownBlock = some g1 from rfl] at hg
         cases hg
         exact hrow.out g1 h
       · rw [show (Value.slice (some ⟨g1,0,none⟩) (ys.length + 1) cap1).ownBlock = some g1 from rfl] at hg
         cases hg
         right;omega
     · refine (hfr.out.alloc (.cells #[.int .u64 ((q:Int) % 2)] 22)).trans (Fr.grown hgr2 (S:=fun g => Value.ownBlock _ = some g) (fun g hg => hg)) (fun g hg => ?_)
       exact hrow.out g hg
    case measure => simp [intOf];omega
theorem drop_cons_nat {a:List Nat} {k:Nat} {x:Nat} (h:a[k]? = some x):a.drop k = x :: a.drop (k + 1):=by
 obtain ⟨hk,rfl⟩:=List.getElem?_eq_some_iff.1 h
 exact List.drop_eq_getElem_cons hk
theorem encZ_snoc_len:∀ (s:List Nat) (n:Nat),(encZ n s).length ≤ n + s.length + 1:=by
 intro s
 induction s with
 | nil => intro n;rw [encZ,List.length_append];have:=digitsL_len n (Nat.le_refl n);simp;omega
 | cons c s ih =>
   intro n
   rw [encZ,List.length_cons]
   split
   · have:=ih (n + 1);omega
   · have:=ih 0
     have:=digitsL_len n (Nat.le_refl n)
     rw [List.length_append,List.length_cons];omega
set_option maxHeartbeats 2000000 in
theorem encode_any (s:ByteArray) (w:World) (hs:s.size ≤ 65536) :
 Calls Tryz.prog 88 #[.string s] w fun e w' => ∃ A c,e = .returned (.tuple #[.slice A (encZ 0 (strL s)).length c,.int .i64 0]) ∧ Rd w' w'.heap.size A ((encZ 0 (strL s)).map u64V) ∧ (∀ a,A = some a → w.heap.size ≤ a.block) ∧ Below w.heap.size w w':=by
 obtain ⟨i0,hi,hz0,hz1,hz2⟩:=info_parts info_u64
 have d0:decide ((65536:Int) < (s.size:Int)) = false:=decide_eq_false (by omega)
 go_enter Tryz.func88,Tryz.ntmps88
 go_wp2_with fail
 go_loopw [4,5,12] (fun v n i wr => ∃ (k m:Nat) (ys:List Nat),i = .int .i64 k ∧ n = .int .u64 m ∧ k ≤ s.size ∧ ys.length + m ≤ k ∧ Hid (ys ++ encZ m ((strL s).drop k) = encZ 0 (strL s)) ∧ Hid (wr.ownsRow w.heap.size 22 1 v ys.length (ys.map u64V)) ∧ Below w.heap.size w wr) (fun _ _ i _ => s.size - (intOf i).toNat)
 case atStart => exact ⟨0,0,[],rfl,rfl,by omega,by simp,hide (by simp),World.ownsRow_nil _ _ _ _,Below.refl _ _⟩
 case round =>
  obtain ⟨k,m,ys,rfl,rfl,hk,hlm,hys,hown,hbe⟩:=hrel
  have hz:=hbe.size
  by_cases hlt:k < s.size
  · obtain ⟨c,hc⟩:∃ c,c = byt s k:=⟨_,rfl⟩
    have hc256:c < 256:=by rw [hc];exact byt_lt s k
    have hcs:(s[k]'hlt).toNat = c:=by rw [hc,byt_of]
    have hst:(strL s).drop k = c :: (strL s).drop (k + 1):=by rw [hc];exact drop_cons_nat (strL_get hlt)
    have hy:=hys.out
    rw [hst,encZ] at hy
    by_cases h0:c = 0
    · rw [if_pos h0] at hy
      have HY:=hide hy
      have hc0:((c:Int) == 0) = true:=by simp [h0]
      clear hc hst hy hys
      subst h0
      go_wp2_with fail
      go_roundw
      case rel => exact ⟨k + 1,m + 1,ys,by go_num,by go_num,by omega,by omega,HY,hown,hbe⟩
      case measure => simp [intOf];omega
    · rw [if_neg h0] at hy
      have HY:=hide hy
      have hc0:((c:Int) == 0) = false:=by simp;omega
      have hdl:=digitsL_len m (Nat.le_refl m)
      have HD:=hide (fun (v:Value) (W:World) (hW:W.ownsRow w.heap.size 22 1 v ys.length (ys.map u64V)) (hz:w.heap.size ≤ W.heap.size) => digits_any w.heap.size v ys m W hW hz (by omega))
      have e1:IntKind.u64.wrap (c:Int) = (c:Int):=IntWalk.u64_in _ ⟨by omega,by omega⟩
      have e2:IntKind.u64.wrap ((c:Int) + 1) = (c:Int) + 1:=IntWalk.u64_in _ ⟨by omega,by omega⟩
      clear hc hst hy hys
      go_wp2_with fail
      go_region_law (first
       | (go_simp;go_at_call 132;refine Calls.mono (HD.out _ wr.drew (by exact hown.out) (by exact hz)) ?_;rintro e w2 ⟨A2,c2,rfl,hown2,hrow2,hfr2⟩
          rw [List.length_append] at hown2
          have hzz:wr.heap.size ≤ w2.heap.size:=hfr2.size
          have hbe2:Below w.heap.size w w2:=hbe.drew.trans (hfr2.toBelowB (fun g hg => (hown.out.lt g hg).1) hz)
          clear hfr2 hrow2)
       | (go_simp;go_at_call 132;refine Calls.mono (HD.out _ (wr.alloc (.cells #[.int .u64 ((c:Int) + 1)] 22)).drew (by exact hown.out.alloc _) (by simp;omega)) ?_;rintro e w2 ⟨A2,c2,rfl,hown2,hrow2,hfr2⟩
          rw [List.length_append] at hown2
          have hzz:wr.heap.size ≤ w2.heap.size:=by have:=hfr2.size;simp at this;omega
          have hbe2:Below w.heap.size w w2:=(hbe.alloc hz (.cells #[.int .u64 ((c:Int) + 1)] 22)).drew.trans (hfr2.toBelowB (fun g hg => (hown.out.lt g hg).1) (by simp;omega))
          have hx2:Bk w2 wr.heap.size 22 #[.int .u64 ((c:Int) + 1)]:=(Bk.new wr 22 #[.int .u64 ((c:Int) + 1)]).drew.fr hfr2 (fun hg => by have:=(hown.out.lt _ hg).2;omega)
          clear hfr2 hrow2)
       | (have hxc:=hx2
          clear hxc
          refine step_append_rd rfl (.tmp 23) (.tmp 29) 93 rfl w.heap.size 22 i0 (.int .u64 0) 1 8 Tryz.underlying93 hi hz0 hz1 hz2 rfl (by decide) (.slice A2 (ys.length + (digitsL m).length) c2) (ys.length + (digitsL m).length) ((ys ++ digitsL m).map u64V) ?_ ?_ (some ⟨wr.heap.size,0,none⟩) 1 1 [.int .u64 ((c:Int) + 1)] ?_ ?_ ?_ ?_ ?_ ?_ ?_ ?_ ?_
          · rfl
          · exact hown2
          · rfl
          · intro h;cases h
          · rfl
          · exact bkRdQ hx2
          · intro u hu;simp at hu;subst hu;rfl
          · unfold maxLen;omega
          · omega
          · omega
          intro v3 w3 hown3 hgr3
          have hbe3:Below w.heap.size w w3:=hbe2.grown hgr3 (by omega) (fun g hg => (hown2.lt g hg).1)
          have hf3:=own_form3 hown3
          obtain ⟨A3,c3,rfl⟩:=hf3
          have HO3:=hide hown3
          clear hgr3 hown3)
       | (refine step_append_rd rfl (.tmp 23) (.tmp 29) 93 rfl w.heap.size 22 i0 (.int .u64 0) 1 8 Tryz.underlying93 hi hz0 hz1 hz2 rfl (by decide) (.slice A2 (ys.length + (digitsL m).length) c2) (ys.length + (digitsL m).length) ((ys ++ digitsL m).map u64V) ?_ ?_ (some ⟨w2.heap.size,0,none⟩) 1 1 [.int .u64 ((c:Int) + 1)] ?_ ?_ ?_ ?_ ?_ ?_ ?_ ?_ ?_
          · rfl
          · exact hown2.alloc (.cells #[.int .u64 ((c:Int) + 1)] 22)
          · rfl
          · intro h;cases h
          · rfl
          · exact bkRdQ (Bk.new w2 22 #[.int .u64 ((c:Int) + 1)])
          · intro u hu;simp at hu;subst hu;rfl
          · unfold maxLen;omega
          · omega
          · simp;omega
          intro v3 w3 hown3 hgr3
          have hbe3:Below w.heap.size w w3:=(hbe2.alloc (by omega) (.cells #[.int .u64 ((c:Int) + 1)] 22)).grown hgr3 (by simp;omega) (fun g hg => (hown2.lt g hg).1)
          have hf3:=own_form3 hown3
          obtain ⟨A3,c3,rfl⟩:=hf3
          have HO3:=hide hown3
          clear hgr3 hown3))
      all_goals
       go_wp2_with fail
       go_roundw
       case rel =>
        refine ⟨k + 1,0,ys ++ digitsL m ++ [c + 1],by go_num,rfl,by omega,by simp;omega,hide (by rw [← HY.out];simp),hide ?_,hbe3⟩
        have:=HO3.out
        rw [List.length_append,List.length_append,List.map_append]
        exact this
       case measure => simp [intOf];omega
  · obtain rfl:k = s.size:=by omega
    have hy:=hys.out
    rw [List.drop_eq_nil_of_le (by rw [strL_length];exact Nat.le_refl _),encZ] at hy
    have HY:=hide hy
    have hdl:=digitsL_len m (Nat.le_refl m)
    have HD:=hide (fun (v:Value) (W:World) (hW:W.ownsRow w.heap.size 22 1 v ys.length (ys.map u64V)) (hz:w.heap.size ≤ W.heap.size) => digits_any w.heap.size v ys m W hW hz (by omega))
    clear hy hys
    go_wp2_with (first
     | (go_at_call 132;refine Calls.mono (HD.out _ wr (by exact hown.out) (by exact hz)) ?_;rintro e w2 ⟨A2,c2,rfl,hown2,hrow2,hfr2⟩
        rw [List.length_append] at hown2
        have hzz:wr.heap.size ≤ w2.heap.size:=hfr2.size
        have hbe2:Below w.heap.size w w2:=hbe.trans (hfr2.toBelowB (fun g hg => (hown.out.lt g hg).1) hz)
        clear hfr2 hrow2)
     | (at_builtin;refine wpList_append_own _ rfl (.tmp 34) (.tmp 35) 93 rfl w.heap.size 22 i0 (.int .u64 0) 1 8 Tryz.underlying93 hi hz0 hz1 hz2 rfl (by decide) _ _ _ rfl (hown2.alloc _) ⟨w2.heap.size,0,none⟩ 1 1 [.int .u64 257] rfl rfl (cell_one_new _ _ _) (by intro u hu;simp at hu;subst hu;rfl) (by unfold maxLen;omega) (by omega) (by simp;omega) ?_;intro v3 w3 hown3 hgr3 _
        have hbe3:Below w.heap.size w w3:=(hbe2.alloc (by omega) (.cells #[.int .u64 257] 22)).grown hgr3 (by simp;omega) (fun g hg => (hown2.lt g hg).1)
        have hf3:=own_form3 hown3
        obtain ⟨A3,c3,rfl⟩:=hf3
        have HO3:=hide hown3
        clear hgr3 hown3))
    go_ret2
    have hlen:(encZ 0 (strL s)).length = ys.length + (digitsL m).length + 1:=by rw [← HY.out];simp;omega
    refine ⟨A3,c3,by rw [hlen];rfl, ?_,fun a ha => (HO3.out.lt a.block (by rw [ha];rfl)).1,hbe3⟩
    have:=(own_rdN HO3.out).1
    rw [← HY.out,← List.append_assoc,List.map_append]
    exact this
def SortedW (l:List It):Prop:=l.Pairwise fun a b => a.w ≤ b.w
def sumW (l:List It):Nat:=(l.map fun x => x.w).sum
theorem sumW_cons (x:It) (l:List It):sumW (x :: l) = x.w + sumW l:=by simp [sumW]
theorem sumW_append (a b:List It):sumW (a ++ b) = sumW a + sumW b:=by simp [sumW]
theorem mrg_sorted {ls ps:List It} (h1:SortedW ls) (h2:SortedW ps):SortedW (mrg ls ps):=by
 induction ls generalizing ps with
 | nil => rw [mrg];exact h2
 | cons l ls ih =>
   induction ps with
   | nil => rw [mrg_nil];exact h1
   | cons p ps ih2 =>
     have h1':=List.pairwise_cons.1 h1
     have h2':=List.pairwise_cons.1 h2
     by_cases h:l.w ≤ p.w
     · rw [mrg_le h]
       refine List.pairwise_cons.2 ⟨fun x hx => ?_,ih h1'.2 h2⟩
       rcases mrg_mem hx with hx | hx
       · exact h1'.1 x hx
       · rcases List.mem_cons.1 hx with rfl | hx
         · exact h
         · exact Nat.le_trans h (h2'.1 x hx)
     · rw [mrg_gt h]
       refine List.pairwise_cons.2 ⟨fun x hx => ?_,ih2 h2'.2⟩
       rcases mrg_mem hx with hx | hx
       · rcases List.mem_cons.1 hx with rfl | hx
         · omega
         · have:=h1'.1 x hx;omega
       · exact h2'.1 x hx
theorem leafIts_sorted {k:Nat} {lw:List Nat} (h:lw.Pairwise fun a b => a ≤ b):SortedW (leafIts k lw):=by
 induction lw generalizing k with
 | nil => exact List.Pairwise.nil
 | cons w l ih =>
   rw [leafIts]
   have h':=List.pairwise_cons.1 h
   exact List.pairwise_cons.2 ⟨fun x hx => h'.1 _ (leafIts_w hx),ih h'.2⟩
theorem pkgs_ge {B:Nat}:∀ (n i:Nat) (l:List It),l.length ≤ n → (∀ x ∈ l,B ≤ x.w) → ∀ x ∈ pkgs i l,2 * B ≤ x.w:=by
 intro n
 induction n with
 | zero => intro i l h _;have:l = []:=List.eq_nil_of_length_eq_zero (by omega);subst this;intro x hx;simp [pkgs] at hx
 | succ n ih =>
   intro i l h hB
   match l,h,hB with
   | [],_,_ => intro x hx;simp [pkgs] at hx
   | [_],_,_ => intro x hx;simp [pkgs] at hx
   | a :: b :: r,h,hB =>
     intro x hx
     rw [pkgs] at hx
     rcases List.mem_cons.1 hx with rfl | hx
     · have h1:=hB a (by simp)
       have h2:=hB b (by simp)
       show 2 * B ≤ a.w + b.w
       omega
     · exact ih _ r (by simp at h;omega) (fun y hy => hB y (by simp [hy])) x hx
theorem pkgs_sorted:∀ (n i:Nat) (l:List It),l.length ≤ n → SortedW l → SortedW (pkgs i l):=by
 intro n
 induction n with
 | zero => intro i l h _;have:l = []:=List.eq_nil_of_length_eq_zero (by omega);subst this;exact List.Pairwise.nil
 | succ n ih =>
   intro i l h hs
   match l,h,hs with
   | [],_,_ => exact List.Pairwise.nil
   | [_],_,_ => exact List.Pairwise.nil
   | a :: b :: r,h,hs =>
     rw [pkgs]
     have h1:=List.pairwise_cons.1 hs
     have h2:=List.pairwise_cons.1 h1.2
     refine List.pairwise_cons.2 ⟨fun x hx => ?_,ih _ r (by simp at h;omega) h2.2⟩
     have:=pkgs_ge (B:=b.w) r.length (i + 2) r (Nat.le_refl _) (fun y hy => h2.1 y hy) x hx
     have h3:=h1.1 b (by simp)
     show a.w + b.w ≤ x.w
     omega
theorem nxtL_sorted {lw:List Nat} {lv:List It} (h:lw.Pairwise fun a b => a ≤ b) (h2:SortedW lv):SortedW (nxtL lw lv) :=
 mrg_sorted (leafIts_sorted h) (pkgs_sorted _ _ _ (Nat.le_refl _) h2)
theorem lvlL_sorted {lw:List Nat} (h:lw.Pairwise fun a b => a ≤ b) (j:Nat):SortedW (lvlL lw j):=by
 induction j with
 | zero => exact nxtL_sorted h List.Pairwise.nil
 | succ j ih => exact nxtL_sorted h ih
theorem sumW_take_le {l:List It} (h:SortedW l) {k:Nat} {B:Nat} (hk:k < l.length) (hB:∀ x ∈ l,B ≤ x.w):B + sumW (l.take k) ≤ sumW (l.take (k + 1)):=by
 obtain ⟨x,hx⟩:∃ x,l[k]? = some x:=⟨l[k],by simp [hk]⟩
 have e:l.take (k + 1) = l.take k ++ [x]:=by rw [List.take_add_one,hx];rfl
 rw [e,sumW_append,sumW_cons]
 have:=hB x (List.mem_of_getElem? hx)
 simp [sumW] at *
 omega
theorem mrg_least {ls ps:List It} (h1:SortedW ls) (h2:SortedW ps):∀ a b,a ≤ ls.length → b ≤ ps.length → sumW ((mrg ls ps).take (a + b)) ≤ sumW (ls.take a) + sumW (ps.take b):=by
 induction ls generalizing ps with
 | nil => intro a b ha _;rw [mrg];simp at ha;subst ha;simp [sumW]
 | cons l ls ih =>
   have h1':=List.pairwise_cons.1 h1
   induction ps with
   | nil => intro a b _ hb;rw [mrg_nil];simp at hb;subst hb;simp [sumW]
   | cons p ps ih2 =>
     have h2':=List.pairwise_cons.1 h2
     intro a b ha hb
     by_cases h:l.w ≤ p.w
     · rw [mrg_le h]
       cases a with
       | succ a =>
         rw [show a + 1 + b = (a + b) + 1 by omega,List.take_succ_cons,List.take_succ_cons,sumW_cons,sumW_cons]
         have:=ih h1'.2 h2 a b (by simpa using ha) hb
         omega
       | zero =>
         cases b with
         | zero => simp [sumW]
         | succ b =>
           rw [show 0 + (b + 1) = b + 1 by omega,List.take_succ_cons,sumW_cons]
           have i:=ih h1'.2 h2 0 b (by omega) (by simp at hb ⊢;omega)
           rw [Nat.zero_add] at i
           have j:=sumW_take_le (k:=b) (B:=l.w) h2 (by simp at hb ⊢;omega) (fun x hx => by
            rcases List.mem_cons.1 hx with rfl | hx
            · exact h
            · exact Nat.le_trans h (h2'.1 x hx))
           simp [sumW] at *
           omega
     · rw [mrg_gt h]
       cases b with
       | succ b =>
         rw [show a + (b + 1) = (a + b) + 1 by omega,List.take_succ_cons,List.take_succ_cons,sumW_cons,sumW_cons]
         have:=ih2 h2'.2 a b ha (by simpa using hb)
         omega
       | zero =>
         cases a with
         | zero => simp [sumW]
         | succ a =>
           rw [show a + 1 + 0 = a + 1 by omega,List.take_succ_cons,sumW_cons]
           have i:=ih2 h2'.2 a 0 (by simp at ha ⊢;omega) (by omega)
           rw [Nat.add_zero] at i
           have j:=sumW_take_le (k:=a) (B:=p.w) h1 (by simp at ha ⊢;omega) (fun x hx => by
            rcases List.mem_cons.1 hx with rfl | hx
            · omega
            · have:=h1'.1 x hx;omega)
           simp [sumW] at *
           omega
theorem leafIts_sum (k:Nat) (lw:List Nat) (a:Nat):sumW ((leafIts k lw).take a) = (lw.take a).sum:=by
 induction lw generalizing k a with
 | nil => simp [leafIts,sumW]
 | cons w l ih =>
   cases a with
   | zero => simp [sumW]
   | succ a => rw [leafIts,List.take_succ_cons,sumW_cons,ih,List.take_succ_cons,List.sum_cons]
theorem pkgs_sum:∀ (b i:Nat) (l:List It),2 * b ≤ l.length → sumW ((pkgs i l).take b) = sumW (l.take (2 * b)):=by
 intro b
 induction b with
 | zero => intro i l _;simp [sumW]
 | succ b ih =>
   intro i l h
   match l,h with
   | [],h => simp at h
   | [_],h => simp at h;omega
   | x :: y :: r,h =>
     rw [pkgs,List.take_succ_cons,sumW_cons,ih _ r (by simp at h;omega),show 2 * (b + 1) = 2 * b + 1 + 1 by omega,List.take_succ_cons,List.take_succ_cons,sumW_cons,sumW_cons]
     show x.w + y.w + _ = _
     omega
def upS (f:Nat → Nat):Nat → Nat
 | 0 => f 0
 | j + 1 => upS f j + f (j + 1)
theorem coins_least {lw:List Nat} (hs:lw.Pairwise fun a b => a ≤ b):∀ (j m:Nat) (c:Nat → Nat),(∀ t,c t ≤ lw.length) → m * 2 ^ j ≤ upS (fun t => c t * 2 ^ t) j →
 m ≤ (lvlL lw j).length ∧ sumW ((lvlL lw j).take m) ≤ upS (fun t => (lw.take (c t)).sum) j:=by
 intro j
 induction j with
 | zero =>
   intro m c hc h
   simp [upS] at h
   have hm:m ≤ lw.length:=Nat.le_trans h (hc 0)
   have e:lvlL lw 0 = leafIts 0 lw:=by rw [lvlL,nxtL];exact mrg_nil _
   rw [e,leafIts_length,leafIts_sum]
   refine ⟨hm, ?_⟩
   show (lw.take m).sum ≤ (lw.take (c 0)).sum
   have:lw.take (c 0) = lw.take m ++ (lw.take (c 0)).drop m:=by
    conv => lhs;rw [← List.take_append_drop m (lw.take (c 0))]
    rw [List.take_take,Nat.min_eq_left h]
   rw [this,List.sum_append];omega
 | succ j ih =>
   intro m c hc h
   have hsl:=leafIts_sorted (k:=0) hs
   have hsp:=pkgs_sorted _ 0 (lvlL lw j) (Nat.le_refl _) (lvlL_sorted hs j)
   have hlen:(lvlL lw (j + 1)).length = lw.length + (lvlL lw j).length / 2:=by rw [lvlL,nxtL_length]
   have hpl:=pkgs_length _ 0 (lvlL lw j) (Nat.le_refl _)
   rw [hlen]
   by_cases hcm:m ≤ c (j + 1)
   · have hm:m ≤ lw.length:=Nat.le_trans hcm (hc _)
     refine ⟨by omega, ?_⟩
     have i:=mrg_least hsl hsp m 0 (by rw [leafIts_length];exact hm) (by omega)
     rw [Nat.add_zero,leafIts_sum] at i
     have e:lw.take (c (j + 1)) = lw.take m ++ (lw.take (c (j + 1))).drop m:=by
      conv => lhs;rw [← List.take_append_drop m (lw.take (c (j + 1)))]
      rw [List.take_take,Nat.min_eq_left hcm]
     have e2:(lw.take (c (j + 1))).sum = (lw.take m).sum + ((lw.take (c (j + 1))).drop m).sum:=by
      conv => lhs;rw [e]
      rw [List.sum_append]
     have i2:sumW ((lvlL lw (j + 1)).take m) ≤ (lw.take m).sum:=by
      rw [lvlL,nxtL];simpa [sumW] using i
     show _ ≤ upS _ j + (lw.take (c (j + 1))).sum
     omega
   · obtain ⟨b,hb⟩:∃ b,m = c (j + 1) + b:=⟨m - c (j + 1),by omega⟩
     have h2:(2 * b) * 2 ^ j ≤ upS (fun t => c t * 2 ^ t) j:=by
      have h3:m * 2 ^ (j + 1) ≤ upS (fun t => c t * 2 ^ t) j + c (j + 1) * 2 ^ (j + 1):=h
      rw [hb,Nat.add_mul] at h3
      have e:(2 * b) * 2 ^ j = b * 2 ^ (j + 1):=by rw [Nat.pow_succ,Nat.mul_comm 2 b,Nat.mul_assoc,Nat.mul_comm 2 (2 ^ j)]
      omega
     obtain ⟨i1,i2⟩:=ih (2 * b) c hc h2
     have hcj:=hc (j + 1)
     refine ⟨by omega, ?_⟩
     have i:=mrg_least hsl hsp (c (j + 1)) b (by rw [leafIts_length];exact hcj) (by rw [hpl];omega)
     rw [leafIts_sum,pkgs_sum b 0 (lvlL lw j) i1] at i
     have i3:sumW ((lvlL lw (j + 1)).take m) ≤ (lw.take (c (j + 1))).sum + sumW ((lvlL lw j).take (2 * b)):=by
      rw [lvlL,nxtL,hb];exact i
     show _ ≤ upS _ j + (lw.take (c (j + 1))).sum
     omega
def SS (f:Nat → Nat):Nat → Nat
 | 0 => 0
 | n + 1 => SS f n + f n
theorem SS_congr {f g:Nat → Nat} {n:Nat} (h:∀ i,i < n → f i = g i):SS f n = SS g n:=by
 induction n with
 | zero => rfl
 | succ n ih => rw [SS,SS,ih (fun i hi => h i (by omega)),h n (by omega)]
theorem SS_le {f g:Nat → Nat} {n:Nat} (h:∀ i,i < n → f i ≤ g i):SS f n ≤ SS g n:=by
 induction n with
 | zero => exact Nat.le_refl _
 | succ n ih => have:=ih (fun i hi => h i (by omega));have:=h n (by omega);rw [SS,SS];omega
theorem SS_add (f g:Nat → Nat) (n:Nat):SS (fun i => f i + g i) n = SS f n + SS g n:=by
 induction n with
 | zero => rfl
 | succ n ih => rw [SS,SS,SS,ih];omega
theorem SS_mul (a:Nat) (f:Nat → Nat) (n:Nat):SS (fun i => a * f i) n = a * SS f n:=by
 induction n with
 | zero => rfl
 | succ n ih => rw [SS,SS,ih,Nat.mul_add]
theorem SS_zero (n:Nat):SS (fun _ => 0) n = 0:=by induction n with
 | zero => rfl
 | succ n ih => rw [SS,ih]
theorem SS_const (a n:Nat):SS (fun _ => a) n = n * a:=by induction n with
 | zero => simp [SS]
 | succ n ih => rw [SS,ih,Nat.succ_mul]
theorem SS_swap (f:Nat → Nat → Nat) (n m:Nat):SS (fun i => SS (fun k => f i k) m) n = SS (fun k => SS (fun i => f i k) n) m:=by
 induction n with
 | zero => rw [SS];symm;exact SS_zero m
 | succ n ih => rw [SS,ih,← SS_add];rfl
theorem SS_cut {f:Nat → Nat} {C n:Nat} (h:C ≤ n):SS (fun i => if i < C then f i else 0) n = SS f C:=by
 induction n with
 | zero => obtain rfl:C = 0:=by omega
           rfl
 | succ n ih =>
   rw [SS]
   by_cases e:C = n + 1
   · subst e
     rw [SS,if_pos (by omega)]
     congr 1
     exact SS_congr fun i hi => if_pos (by omega)
   · rw [ih (by omega),if_neg (by omega)];rfl
theorem SS_take (l:List Nat):∀ n,n ≤ l.length → SS (fun i => l.getD i 0) n = (l.take n).sum:=by
 intro n
 induction n with
 | zero => intro _;simp [SS]
 | succ n ih =>
   intro h
   rw [SS,ih (by omega),List.take_add_one,List.sum_append]
   congr 1
   rw [List.getD_eq_getElem?_getD,List.getElem?_eq_getElem (by omega)];simp
theorem upS_eq (f:Nat → Nat) (j:Nat):upS f j = SS f (j + 1):=by
 induction j with
 | zero => simp [upS,SS]
 | succ j ih => rw [upS,ih];rfl
theorem SS_rev (f:Nat → Nat) (n:Nat):SS (fun k => f (n - 1 - k)) n = SS f n:=by
 have key:∀ n,SS (fun k => f (n - 1 - k)) n = SS f n:=by
  intro n
  induction n generalizing f with
  | zero => rfl
  | succ n ih =>
    have h1:SS f (n + 1) = f 0 + SS (fun i => f (i + 1)) n:=by
     clear ih
     induction n with
     | zero => simp [SS]
     | succ n ih2 => rw [SS,ih2,SS];omega
    rw [SS,h1,← ih (fun i => f (i + 1))]
    have:SS (fun k => f (n + 1 - 1 - k)) n = SS (fun k => f (n - 1 - k + 1)) n:=SS_congr fun i hi => by congr 1;omega
    rw [this,show n + 1 - 1 - n = 0 by omega];omega
 exact key n
theorem SS_part {f:Nat → Nat} (p:Nat → Prop) [DecidablePred p]:∀ n,(∀ i j,i ≤ j → j < n → f i ≤ f j) → SS (fun i => if p i then 1 else 0) n ≤ n ∧ SS f (SS (fun i => if p i then 1 else 0) n) ≤ SS (fun i => if p i then f i else 0) n:=by
 intro n
 induction n with
 | zero => intro _;exact ⟨Nat.le_refl _,Nat.le_refl _⟩
 | succ n ih =>
   intro h
   obtain ⟨h1,h2⟩:=ih (fun i j a b => h i j a (by omega))
   simp only [SS]
   by_cases hp:p n
   · rw [if_pos hp,if_pos hp]
     refine ⟨by omega, ?_⟩
     rw [SS]
     have:=h (SS (fun i => if p i then 1 else 0) n) n h1 (by omega)
     omega
   · rw [if_neg hp,if_neg hp]
     exact ⟨by omega,h2⟩
theorem SS_pow (L:Nat):∀ l,l ≤ L → SS (fun k => if k < l then 2 ^ (L - 1 - k) else 0) L + 2 ^ (L - l) = 2 ^ L:=by
 intro l
 induction l with
 | zero => intro _;have:SS (fun k => if k < 0 then 2 ^ (L - 1 - k) else 0) L = 0:=(SS_congr (g:=fun _ => 0) fun i _ => if_neg (by omega)).trans (SS_zero L)
           rw [this];simp
 | succ l ih =>
   intro hl
   have i:=ih (by omega)
   rw [SS_cut (by omega)] at i ⊢
   rw [SS]
   have e:2 ^ (L - l) = 2 ^ (L - 1 - l) + 2 ^ (L - (l + 1)):=by
    rw [show L - l = (L - 1 - l) + 1 by omega,show L - (l + 1) = L - 1 - l by omega,Nat.pow_succ];omega
   omega
theorem SS_count (p:Nat → Prop) [DecidablePred p]:∀ n,(∀ k,p (k + 1) → p k) → ∀ k,k < n → (p k ↔ k < SS (fun k => if p k then 1 else 0) n):=by
 intro n hd
 have down:∀ a b,a ≤ b → p b → p a:=by
  intro a b hab
  induction b with
  | zero => intro h;obtain rfl:a = 0:=by omega
            exact h
  | succ b ih =>
    intro h
    by_cases e:a = b + 1
    · subst e;exact h
    · exact ih (by omega) (hd b h)
 have le:∀ n,SS (fun k => if p k then 1 else 0) n ≤ n:=by
  intro n
  induction n with
  | zero => exact Nat.le_refl _
  | succ n ih => rw [SS];split <;> omega
 induction n with
 | zero => intro k hk;omega
 | succ n ih =>
   intro k hk
   rw [SS]
   by_cases hp:p n
   · have full:SS (fun k => if p k then 1 else 0) n = n:=by
      rw [SS_congr (g:=fun _ => 1) fun i hi => if_pos (down i n (by omega) hp),SS_const];omega
     rw [if_pos hp,full]
     exact ⟨fun _ => by omega,fun _ => down k n (by omega) hp⟩
   · rw [if_neg hp,Nat.add_zero]
     rcases Nat.lt_or_ge k n with h | h
     · exact ih k h
     · obtain rfl:k = n:=by omega
       exact ⟨fun h => absurd h hp,fun h => by have:=le k;omega⟩
theorem SS_pos {f:Nat → Nat} {n i:Nat} (h:i < n):f i ≤ SS f n:=by
 induction n with
 | zero => omega
 | succ n ih =>
   rw [SS]
   by_cases e:i = n
   · subst e;omega
   · have:=ih (by omega);omega
theorem SS_two {f:Nat → Nat} {n i k:Nat} (hi:i < n) (hk:k < n) (hne:i ≠ k):f i + f k ≤ SS f n:=by
 induction n with
 | zero => omega
 | succ n ih =>
   rw [SS]
   by_cases e:i = n
   · subst e;have:=SS_pos (f:=f) (show k < i by omega);omega
   · by_cases e2:k = n
     · subst e2;have:=SS_pos (f:=f) (show i < k by omega);omega
     · have:=ih (by omega) (by omega);omega
def lfs (l:List It):List It:=l.filter fun x => decide (0 ≤ x.leaf)
def pks (l:List It):List It:=l.filter fun x => decide (x.leaf < 0)
theorem pkN_pks (l:List It):pkN l = (pks l).length:=rfl
theorem lfs_cons (x:It) (l:List It):lfs (x :: l) = if 0 ≤ x.leaf then x :: lfs l else lfs l:=by
 unfold lfs
 by_cases h:0 ≤ x.leaf
 · rw [if_pos h,List.filter_cons,if_pos (decide_eq_true h)]
 · rw [if_neg h,List.filter_cons,if_neg (by rw [decide_eq_false h];decide)]
theorem pks_cons (x:It) (l:List It):pks (x :: l) = if 0 ≤ x.leaf then pks l else x :: pks l:=by
 unfold pks
 by_cases h:0 ≤ x.leaf
 · rw [if_pos h,List.filter_cons,if_neg (by rw [decide_eq_false (by omega)];decide)]
 · rw [if_neg h,List.filter_cons,if_pos (decide_eq_true (by omega))]
theorem lfs_pks_len (l:List It):(lfs l).length + pkN l = l.length:=by
 rw [pkN_pks]
 induction l with
 | nil => rfl
 | cons x l ih => rw [lfs_cons,pks_cons];split <;> simp <;> omega
theorem lfs_pks_sum (l:List It):sumW l = sumW (lfs l) + sumW (pks l):=by
 induction l with
 | nil => rfl
 | cons x l ih => rw [lfs_cons,pks_cons,sumW_cons,ih];split <;> rw [sumW_cons] <;> omega
theorem mrg_lfs {ls ps:List It} (h1:∀ x ∈ ls,0 ≤ x.leaf) (h2:∀ x ∈ ps,x.leaf < 0):lfs (mrg ls ps) = ls ∧ pks (mrg ls ps) = ps:=by
 induction ls generalizing ps with
 | nil =>
   rw [mrg]
   refine ⟨List.filter_eq_nil_iff.2 fun x hx => by have:=h2 x hx;simp;omega,List.filter_eq_self.2 fun x hx => by simpa using h2 x hx⟩
 | cons l ls ih =>
   have hl:=h1 l (by simp)
   induction ps with
   | nil =>
     rw [mrg_nil]
     refine ⟨List.filter_eq_self.2 fun x hx => by simpa using h1 x hx,List.filter_eq_nil_iff.2 fun x hx => by have:=h1 x hx;simp;omega⟩
   | cons p ps ih2 =>
     have hp:=h2 p (by simp)
     by_cases h:l.w ≤ p.w
     · rw [mrg_le h,lfs_cons,pks_cons,if_pos hl,if_pos hl]
       obtain ⟨a,b⟩:=ih (fun x hx => h1 x (List.mem_cons_of_mem _ hx)) h2
       exact ⟨by rw [a],b⟩
     · rw [mrg_gt h,lfs_cons,pks_cons,if_neg (by omega),if_neg (by omega)]
       obtain ⟨a,b⟩:=ih2 (fun x hx => h2 x (List.mem_cons_of_mem _ hx))
       exact ⟨a,by rw [b]⟩
theorem take_filter {p:It → Bool} (l:List It) (m:Nat):(l.take m).filter p = (l.filter p).take ((l.take m).filter p).length:=by
 have h:l.filter p = (l.take m).filter p ++ (l.drop m).filter p:=by rw [← List.filter_append,List.take_append_drop]
 rw [h,List.take_left]
def lfC (lw:List Nat) (lv:List It) (m:Nat):Nat:=(lfs ((nxtL lw lv).take m)).length
theorem nxt_lfs (lw:List Nat) (lv:List It):lfs (nxtL lw lv) = leafIts 0 lw ∧ pks (nxtL lw lv) = pkgs 0 lv :=
 mrg_lfs (fun x hx => by have:=leafIts_leaf hx;omega) (fun x hx => by have:=pkgs_leaf _ _ _ (Nat.le_refl _) hx;omega)
theorem leafIts_take (k c:Nat) (lw:List Nat):(leafIts k lw).take c = leafIts k (lw.take c):=by
 induction lw generalizing k c with
 | nil => simp [leafIts]
 | cons w l ih =>
   cases c with
   | zero => rfl
   | succ c => rw [leafIts,List.take_succ_cons,ih,List.take_succ_cons,leafIts]
theorem first_lfs (lw:List Nat) (lv:List It) (m:Nat):lfs ((nxtL lw lv).take m) = leafIts 0 (lw.take (lfC lw lv m)) ∧ lfC lw lv m ≤ lw.length:=by
 have h:=take_filter (p:=fun x => decide (0 ≤ x.leaf)) (nxtL lw lv) m
 have h1:lfs ((nxtL lw lv).take m) = (lfs (nxtL lw lv)).take (lfC lw lv m):=h
 rw [(nxt_lfs lw lv).1,leafIts_take] at h1
 refine ⟨h1, ?_⟩
 have h2:=List.length_filter_le (fun x:It => decide (0 ≤ x.leaf)) ((nxtL lw lv).take m)
 have h3:(lfs ((nxtL lw lv).take m)).length ≤ (lfs (nxtL lw lv)).length:=(List.Sublist.filter _ (List.take_sublist m (nxtL lw lv))).length_le
 rw [(nxt_lfs lw lv).1,leafIts_length] at h3
 exact h3
theorem first_pks (lw:List Nat) (lv:List It) (m:Nat):pks ((nxtL lw lv).take m) = (pkgs 0 lv).take (pkN ((nxtL lw lv).take m)) ∧ pkN ((nxtL lw lv).take m) ≤ lv.length / 2:=by
 have h:=take_filter (p:=fun x => decide (x.leaf < 0)) (nxtL lw lv) m
 have h1:pks ((nxtL lw lv).take m) = (pks (nxtL lw lv)).take (pkN ((nxtL lw lv).take m)):=h
 rw [(nxt_lfs lw lv).2] at h1
 refine ⟨h1, ?_⟩
 have:=pkN_take (nxtL lw lv) m
 rwa [pkN_nxt] at this
theorem first_sum (lw:List Nat) (lv:List It) (m:Nat):sumW ((nxtL lw lv).take m) = (lw.take (lfC lw lv m)).sum + sumW (lv.take (2 * pkN ((nxtL lw lv).take m))):=by
 obtain ⟨a,_⟩:=first_lfs lw lv m
 obtain ⟨b,b2⟩:=first_pks lw lv m
 rw [lfs_pks_sum,a,b,pkgs_sum _ _ _ (by omega)]
 congr 1
 have:=leafIts_sum 0 (lw.take (lfC lw lv m)) (lw.take (lfC lw lv m)).length
 rwa [List.take_of_length_le (by rw [leafIts_length];exact Nat.le_refl _),List.take_of_length_le (Nat.le_refl _)] at this
theorem first_len (lw:List Nat) (lv:List It) {m:Nat} (h:m ≤ (nxtL lw lv).length):lfC lw lv m + pkN ((nxtL lw lv).take m) = m:=by
 have:=lfs_pks_len ((nxtL lw lv).take m)
 rw [List.length_take] at this
 unfold lfC;omega
theorem mrg_front {ls ps:List It} (hs:SortedW ls) (hp:SortedW ps) (h1:∀ x ∈ ls,0 ≤ x.leaf) (h2:∀ x ∈ ps,x.leaf < 0):∀ (m q:Nat) (l p:It),ls[(lfs ((mrg ls ps).take m)).length]? = some l → q < pkN ((mrg ls ps).take m) → ps[q]? = some p → p.w < l.w:=by
 intro m
 induction m generalizing ls ps with
 | zero => intro q l p _ hq _;simp [pkN] at hq
 | succ m ih =>
   intro q l p hl hq hpq
   cases ls with
   | nil => simp at hl
   | cons l0 ls =>
     cases ps with
     | nil => simp at hpq
     | cons p0 ps =>
       have hs':=List.pairwise_cons.1 hs
       have hp':=List.pairwise_cons.1 hp
       have hl0:=h1 l0 (by simp)
       have hp0:=h2 p0 (by simp)
       by_cases h:l0.w ≤ p0.w
       · rw [mrg_le h,List.take_succ_cons] at hl hq
         rw [lfs_cons,if_pos hl0,List.length_cons,List.getElem?_cons_succ] at hl
         rw [pkN_pks,pks_cons,if_pos hl0] at hq
         exact ih hs'.2 hp (fun x hx => h1 x (List.mem_cons_of_mem _ hx)) h2 q l p hl hq hpq
       · rw [mrg_gt h,List.take_succ_cons] at hl hq
         rw [lfs_cons,if_neg (by omega)] at hl
         rw [pkN_pks,pks_cons,if_neg (by omega),List.length_cons] at hq
         cases q with
         | zero =>
           simp at hpq
           subst hpq
           have hmem:=List.mem_of_getElem? hl
           rcases List.mem_cons.1 hmem with rfl | hm
           · omega
           · have:=hs'.1 l hm;omega
         | succ q =>
           rw [List.getElem?_cons_succ] at hpq
           exact ih hs hp'.2 h1 (fun x hx => h2 x (List.mem_cons_of_mem _ hx)) q l p hl (by rw [pkN_pks];omega) hpq
def pv (lw:List Nat):Nat → List It
 | 0 => []
 | j + 1 => lvlL lw j
theorem lvl_pv (lw:List Nat) (j:Nat):lvlL lw j = nxtL lw (pv lw j):=by cases j <;> rfl
theorem pkgs_get:∀ (q i:Nat) (l:List It) {x y:It},l[2 * q]? = some x → l[2 * q + 1]? = some y → ∃ p,(pkgs i l)[q]? = some p ∧ p.w = x.w + y.w:=by
 intro q
 induction q with
 | zero =>
   intro i l x y hx hy
   match l,hx,hy with
   | a :: b :: r,hx,hy =>
     simp at hx hy
     subst hx hy
     exact ⟨_,by rw [pkgs];rfl,rfl⟩
 | succ q ih =>
   intro i l x y hx hy
   match l,hx,hy with
   | a :: b :: r,hx,hy =>
     rw [show 2 * (q + 1) = 2 * q + 1 + 1 by omega,List.getElem?_cons_succ,List.getElem?_cons_succ] at hx
     rw [show 2 * (q + 1) + 1 = 2 * q + 1 + 1 + 1 by omega,List.getElem?_cons_succ,List.getElem?_cons_succ] at hy
     obtain ⟨p,h1,h2⟩:=ih (i + 2) r hx hy
     exact ⟨p,by rw [pkgs,List.getElem?_cons_succ];exact h1,h2⟩
theorem leafIts_get {k c:Nat} {lw:List Nat} {x:Nat} (h:lw[c]? = some x):(leafIts k lw)[c]? = some ⟨x,(k + c:Nat),0⟩:=by
 induction lw generalizing k c with
 | nil => simp at h
 | cons w l ih =>
   cases c with
   | zero => simp at h;subst h;rfl
   | succ c =>
     rw [leafIts,List.getElem?_cons_succ,ih (by simpa using h)]
     congr 2;omega
theorem bump_lfs (c:List Nat) (l:List It):bump c l = bump c (lfs l):=by
 induction l generalizing c with
 | nil => rfl
 | cons x l ih =>
   rw [lfs_cons]
   show bump (bump1 c x) l = _
   by_cases h:0 ≤ x.leaf
   · rw [if_pos h,ih];rfl
   · rw [if_neg h,ih];unfold bump1;rw [if_neg h]
theorem bump_leaves (i:Nat):∀ (l:List Nat) (k:Nat) (c:List Nat),k + l.length ≤ c.length → (bump c (leafIts k l)).getD i 0 = c.getD i 0 + (if k ≤ i ∧ i < k + l.length then 1 else 0):=by
 intro l
 induction l with
 | nil => intro k c _;show c.getD i 0 = _;rw [if_neg (by rw [List.length_nil];omega)];omega
 | cons w l ih =>
   intro k c h
   rw [List.length_cons] at h
   show (bump (bump1 c ⟨w,k,0⟩) (leafIts (k + 1) l)).getD i 0 = _
   rw [ih (k + 1) _ (by rw [bump1_length];omega)]
   have hb:bump1 c ⟨w,k,0⟩ = c.set k (c.getD k 0 + 1):=by
    unfold bump1
    exact if_pos (by show (0:Int) ≤ (k:Int);omega)
   rw [hb,List.length_cons]
   by_cases e:i = k
   · subst e
     rw [List.getD_eq_getElem?_getD,List.getElem?_set_self (by omega),if_neg (by omega),if_pos (by omega)];rfl
   · rw [List.getD_eq_getElem?_getD,List.getElem?_set_ne (by omega),← List.getD_eq_getElem?_getD]
     congr 1
     by_cases e2:k + 1 ≤ i ∧ i < k + 1 + l.length
     · rw [if_pos e2,if_pos (by omega)]
     · rw [if_neg e2,if_neg (by omega)]
section
variable (lw:List Nat) (L:Nat)
def Mk (k:Nat):Nat:=(stC lw.length ((lvls lw L).reverse.take k)).1
def Ck (k:Nat):Nat:=if k < L then lfC lw (pv lw (L - 1 - k)) (Mk lw L k) else 0
end
section
variable {lw:List Nat} {L:Nat}
theorem st_succ {k:Nat} (h:k < L):stC lw.length ((lvls lw L).reverse.take (k + 1)) = stepC (stC lw.length ((lvls lw L).reverse.take k)) (lvlL lw (L - 1 - k)):=by
 rw [List.take_add_one,lvls_rev h]
 show stC _ (_ ++ [_]) = _
 rw [stC_snoc]
theorem Mk_succ {k:Nat} (h:k < L):Mk lw L (k + 1) = 2 * pkN ((lvlL lw (L - 1 - k)).take (Mk lw L k)):=by
 unfold Mk
 rw [st_succ h];rfl
theorem Mk_fits (h2:lw.length ≤ 2 ^ L) {k:Nat} (h:k < L):Mk lw L k ≤ (lvlL lw (L - 1 - k)).length:=st_fits h2 (lvls_rev h)
theorem Ck_pk (h2:lw.length ≤ 2 ^ L) {k:Nat} (h:k < L):Ck lw L k + pkN ((lvlL lw (L - 1 - k)).take (Mk lw L k)) = Mk lw L k:=by
 have:=first_len lw (pv lw (L - 1 - k)) (m:=Mk lw L k) (by rw [← lvl_pv];exact Mk_fits h2 h)
 unfold Ck
 rw [if_pos h,lvl_pv];exact this
theorem Ck_le (k:Nat):Ck lw L k ≤ lw.length:=by
 unfold Ck
 split
 · exact (first_lfs _ _ _).2
 · omega
theorem Ck_fall (hs:lw.Pairwise fun a b => a ≤ b) (k:Nat):Ck lw L (k + 1) ≤ Ck lw L k:=by
 by_cases hk:k + 1 < L
 · refine Nat.le_of_not_lt fun hlt => ?_
   obtain ⟨j,hj⟩:∃ j,L - 1 - k = j + 1:=⟨L - 1 - (k + 1),by omega⟩
   have hj2:L - 1 - (k + 1) = j:=by omega
   obtain ⟨c,hc⟩:∃ c,c = Ck lw L k:=⟨_,rfl⟩
   rw [← hc] at hlt
   have hC1:Ck lw L (k + 1) = lfC lw (pv lw j) (Mk lw L (k + 1)):=by unfold Ck;rw [if_pos hk,hj2]
   have hC0:c = lfC lw (lvlL lw j) (Mk lw L k):=by rw [hc];unfold Ck;rw [if_pos (by omega),hj];rfl
   have hM:Mk lw L (k + 1) = 2 * pkN ((nxtL lw (lvlL lw j)).take (Mk lw L k)):=by rw [Mk_succ (by omega),hj];rfl
   obtain ⟨p,hp⟩:∃ p,p = pkN ((nxtL lw (lvlL lw j)).take (Mk lw L k)):=⟨_,rfl⟩
   rw [← hp] at hM
   have hcl:c < lw.length:=by have:=Ck_le (lw:=lw) (L:=L) (k + 1);omega
   obtain ⟨x,hx⟩:∃ x,lw[c]? = some x:=⟨lw[c],by simp [hcl]⟩
   -- the leaf c is among the first 2p of the level beneath
   have hmem:(⟨x,(c:Nat),0⟩:It) ∈ (lvlL lw j).take (2 * p):=by
    obtain ⟨a,_⟩:=first_lfs lw (pv lw j) (Mk lw L (k + 1))
    rw [← lvl_pv,hM,← hM,← hC1] at a
    have hg:(leafIts 0 (lw.take (Ck lw L (k + 1))))[c]? = some ⟨x,(0 + c:Nat),0⟩:=leafIts_get (by rw [List.getElem?_take_of_lt hlt];exact hx)
    rw [← a,Nat.zero_add] at hg
    have:=List.mem_of_getElem? hg
    rw [hM] at this
    exact (List.mem_filter.1 this).1
   obtain ⟨pos,hpos⟩:=List.mem_iff_getElem?.1 hmem
   have hpl:pos < 2 * p:=by
    have:=(List.getElem?_eq_some_iff.1 hpos).1
    rw [List.length_take] at this;omega
   rw [List.getElem?_take_of_lt hpl] at hpos
   have hp2:=(first_pks lw (lvlL lw j) (Mk lw L k)).2
   rw [← hp] at hp2
   obtain ⟨q,hq⟩:∃ q,q = pos / 2:=⟨_,rfl⟩
   have hl0:2 * q < (lvlL lw j).length:=by omega
   have hl1:2 * q + 1 < (lvlL lw j).length:=by omega
   obtain ⟨pk,hpk,hpw⟩:=pkgs_get q 0 (lvlL lw j) (x:=(lvlL lw j)[2 * q]) (y:=(lvlL lw j)[2 * q + 1]) (by simp [hl0]) (by simp [hl1])
   have hge:x ≤ pk.w:=by
    rcases (show pos = 2 * q ∨ pos = 2 * q + 1 by omega) with e | e
    · have:(lvlL lw j)[2 * q] = ⟨x,(c:Nat),0⟩:=by
       rw [e,List.getElem?_eq_getElem hl0] at hpos;simpa using hpos
      rw [hpw,this]
      show x ≤ x + _
      omega
    · have:(lvlL lw j)[2 * q + 1] = ⟨x,(c:Nat),0⟩:=by
       rw [e,List.getElem?_eq_getElem hl1] at hpos;simpa using hpos
      rw [hpw,this]
      show x ≤ _ + x
      omega
   have:=mrg_front (leafIts_sorted (k:=0) hs) (pkgs_sorted _ 0 (lvlL lw j) (Nat.le_refl _) (lvlL_sorted hs j)) (fun y hy => by have:=leafIts_leaf hy;omega) (fun y hy => by have:=pkgs_leaf _ _ _ (Nat.le_refl _) hy;omega)
    (Mk lw L k) q ⟨x,(0 + c:Nat),0⟩ pk (by
      have e:(lfs ((mrg (leafIts 0 lw) (pkgs 0 (lvlL lw j))).take (Mk lw L k))).length = c:=by rw [hC0];rfl
      rw [e];exact leafIts_get hx) (by
      have e:pkN ((mrg (leafIts 0 lw) (pkgs 0 (lvlL lw j))).take (Mk lw L k)) = p:=by rw [hp];rfl
      rw [e];omega) hpk
   have:pk.w < x:=this
   omega
 · unfold Ck
   rw [if_neg hk];omega
theorem cnt_get {i:Nat}:∀ k,k ≤ L → (stC lw.length ((lvls lw L).reverse.take k)).2.getD i 0 = SS (fun k => if i < Ck lw L k then 1 else 0) k:=by
 intro k
 induction k with
 | zero =>
   intro _
   show (List.replicate lw.length 0).getD i 0 = 0
   rw [List.getD_eq_getElem?_getD,List.getElem?_replicate];split <;> rfl
 | succ k ih =>
   intro hk
   rw [st_succ (by omega),SS]
   show (bump _ ((lvlL lw (L - 1 - k)).take (Mk lw L k))).getD i 0 = _
   obtain ⟨a,b⟩:=first_lfs lw (pv lw (L - 1 - k)) (Mk lw L k)
   rw [bump_lfs,lvl_pv,a,bump_leaves i _ 0 _ (by rw [List.length_take,stC_length];omega),ih (by omega)]
   congr 1
   have hC:Ck lw L k = lfC lw (pv lw (L - 1 - k)) (Mk lw L k):=by unfold Ck;rw [if_pos (by omega)]
   have hl:(lw.take (lfC lw (pv lw (L - 1 - k)) (Mk lw L k))).length = Ck lw L k:=by rw [List.length_take,hC];omega
   rw [hl]
   by_cases h:i < Ck lw L k
   · rw [if_pos h,if_pos (by omega)]
   · rw [if_neg h,if_neg (by omega)]
theorem cntL_get (i:Nat):(cntL lw L).getD i 0 = SS (fun k => if i < Ck lw L k then 1 else 0) L:=by
 have:=cnt_get (lw:=lw) (L:=L) (i:=i) L (Nat.le_refl _)
 rwa [List.take_of_length_le (by rw [List.length_reverse,lvls_length];exact Nat.le_refl _)] at this
theorem cnt_lt (hs:lw.Pairwise fun a b => a ≤ b) {i k:Nat} (hk:k < L):i < Ck lw L k ↔ k < (cntL lw L).getD i 0:=by
 rw [cntL_get]
 exact SS_count (fun k => i < Ck lw L k) L (fun k h => Nat.lt_of_lt_of_le h (Ck_fall hs k)) k hk
theorem cnt_limit (i:Nat):(cntL lw L).getD i 0 ≤ L:=by
 rw [cntL_get]
 have:SS (fun k => if i < Ck lw L k then 1 else 0) L ≤ SS (fun _ => 1) L:=SS_le fun k _ => by split <;> omega
 rw [SS_const] at this;omega
theorem cnt_fall {i j:Nat} (h:i ≤ j):(cntL lw L).getD j 0 ≤ (cntL lw L).getD i 0:=by
 rw [cntL_get,cntL_get]
 exact SS_le fun k _ => by
  by_cases e:j < Ck lw L k
  · rw [if_pos e,if_pos (by omega)];exact Nat.le_refl _
  · rw [if_neg e];omega
end
end Go.Proofs.YtcfnjpokfodmoaaGreatDoor
