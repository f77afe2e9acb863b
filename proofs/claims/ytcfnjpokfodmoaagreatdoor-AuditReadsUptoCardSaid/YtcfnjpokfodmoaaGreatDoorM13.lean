/- Lemmas for the row: SegPlain, Weights. -/
import Derived.Test.YtcfnjpokfodmoaaGreatDoorM01
import Derived.Test.YtcfnjpokfodmoaaGreatDoorM04
import Derived.Test.YtcfnjpokfodmoaaGreatDoorM06
import Derived.Test.YtcfnjpokfodmoaaGreatDoorM10
import Derived.Test.YtcfnjpokfodmoaaGreatDoorM12
set_option maxRecDepth 100000
set_option linter.unusedVariables false
namespace Go.Proofs.YtcfnjpokfodmoaaGreatDoor
open Go.RowKit
theorem trip {α β γ:Type} (p:α × β × γ):∃ x y z,p = (x,y,z):=⟨p.1,p.2.1,p.2.2,rfl⟩
def weightsL (l:List Nat):List Int:=(List.range 258).map fun i => ((l.count i:Nat):Int)
theorem weightsL_length (l:List Nat):(weightsL l).length = 258:=by simp [weightsL]
theorem weightsL_get {l:List Nat} {i:Nat} (h:i < 258):(weightsL l).getD i 0 = ((l.count i:Nat):Int):=by
 unfold weightsL
 rw [List.getD_eq_getElem?_getD,List.getElem?_map,List.getElem?_range h];rfl
theorem weightsL_mem {l:List Nat} {x:Int} (h:x ∈ weightsL l):0 ≤ x ∧ x ≤ (l.length:Int):=by
 obtain ⟨i,_,rfl⟩:=List.mem_map.1 h
 have:=List.count_le_length (a:=i) (l:=l)
 omega
def lensN (l:List Nat):List Nat:=packL (weightsL l) 15
def lensL (l:List Nat):List Int:=packI (weightsL l) 15
theorem lensN_length (l:List Nat):(lensN l).length = 258:=by unfold lensN;rw [packL_length,weightsL_length]
theorem lensL_length (l:List Nat):(lensL l).length = 258:=by unfold lensL;rw [packI_length,weightsL_length]
theorem lensL_map (l:List Nat):lensL l = (lensN l).map Int.ofNat:=rfl
theorem ord_le258 (l:List Nat):(ordL (weightsL l)).length ≤ 258:=by
 rw [(ordL_perm (weightsL l)).length_eq]
 have:=List.length_filter_le (fun k => decide (0 < (weightsL l).getD k 0)) (List.range (weightsL l).length)
 rw [List.length_range,weightsL_length] at this
 unfold symL symK
 rw [weightsL_length]
 exact this
theorem seg_packW {l:List Nat} (h:l.length ≤ 1000000):packW (weightsL l) 15 = 0:=by
 unfold packW
 have h1:alphaB (weightsL l) = true:=by
  unfold alphaB
  rw [weightsL_length,Bool.and_eq_true,Bool.not_eq_true']
  refine ⟨by decide, ?_⟩
  rw [List.any_eq_false]
  intro x hx
  have:=(weightsL_mem hx).2
  unfold heavyB
  simp
  omega
 have:=ord_le258 l
 rw [if_pos ⟨h1,by decide,by decide⟩,if_neg (by show ¬ 2 ^ 15 < _;omega)]
theorem seg_ok (l:List Nat):okL (lensL l) = true:=by
 have:=ord_le258 l
 obtain ⟨q,ok⟩:=packOK (weightsL l) (L:=15) (by decide) (by omega)
 exact ok.right (by rw [weightsL_length];decide)
theorem seg_tab (l:List Nat):tabW (lensL l) = 0:=by
 unfold tabW okW
 rw [if_neg (by rw [lensL_length];decide),if_pos (seg_ok l)]
theorem seg_has {l:List Nat} {x:Nat} (h:x ∈ l) (hx:x < 258):∃ n:Nat,(lensL l)[x]? = some (n:Int) ∧ 1 ≤ n ∧ n ≤ 15:=by
 have:=ord_le258 l
 obtain ⟨q,ok⟩:=packOK (weightsL l) (L:=15) (by decide) (by omega)
 have h1:0 < (weightsL l).getD x 0:=by
  rw [weightsL_get hx]
  have:=List.count_pos_iff.2 h
  omega
 have h2:=(ok.has (s:=x) (by rw [weightsL_length];exact hx)).1 h1
 have h3:=ok.le x
 refine ⟨(packL (weightsL l) 15).getD x 0, ?_,h2,h3⟩
 unfold lensL packI
 rw [List.getElem?_map,List.getD_eq_getElem?_getD,List.getElem?_eq_getElem (by rw [packL_length,weightsL_length];exact hx)];rfl
def segBits (l:List Nat):List Bool:=tabBits (lensL l) ++ l.flatMap (codeB (lensL l))
theorem read_there {ls:List Int} (h0:tabW ls = 0) {s:ByteArray} {N a:Nat} {r:List Bool} (hb:(bitsL s N).drop a = tabBits ls ++ r):readT s N a ls.length = (0,ls.map Int.toNat,r):=by
 obtain ⟨hok,hne⟩:=tabW_zero h0
 obtain ⟨h512,hr⟩:=okL_nat hok
 have hd:(bitsL s N).drop a = natBits ((ls.map Int.toNat).headD 0) 4 ++ (tabT ((ls.map Int.toNat).headD 0) (ls.map Int.toNat) ++ r):=by
  rw [hb,tabL_head,List.append_assoc]
 have h15:=head_le hr
 obtain ⟨h1,h2,h3⟩:=getN_of hd (by decide) (by omega)
 have e:=lensT_tab (ls.map Int.toNat) true ((ls.map Int.toNat).headD 0) r (nat_le hr) h15 (fun _ => head_eq)
 rw [List.length_map] at e
 unfold readT
 rw [if_neg (by omega),h2,h3,e,if_pos rfl,toNat_ofNat (fun x hx => (hr x hx).1),if_pos hok]
def gathR (ls:List Int) (s:ByteArray) (N:Nat):Nat → List Nat → List Nat → Nat → Int × List Nat × Nat
 | 0,_,_,_ => (7,[],0)
 | f + 1,out,d,a =>
   if (nextC ls s N a 15 0 0).2.2 = 0 then
    if (nextC ls s N a 15 0 0).1 < 2 then gathR ls s N f out (d ++ [(nextC ls s N a 15 0 0).1.toNat]) (nextC ls s N a 15 0 0).2.1.toNat
    else if 512 < out.length + numL d + (if (nextC ls s N a 15 0 0).1 = 257 then 0 else 1) then (7,[],0)
    else if (nextC ls s N a 15 0 0).1 = 257 then (0,out ++ List.replicate (numL d) 0,(nextC ls s N a 15 0 0).2.1.toNat)
    else gathR ls s N f (out ++ List.replicate (numL d) 0 ++ [(nextC ls s N a 15 0 0).1.toNat - 1]) [] (nextC ls s N a 15 0 0).2.1.toNat
   else ((nextC ls s N a 15 0 0).2.2,[],0)
theorem decZ_len:∀ {l out d t r:List Nat},decZ out d l = some (t,r) → out.length + numL d ≤ t.length:=by
 intro l
 induction l with
 | nil => intro out d t r h;cases h
 | cons x l ih =>
   intro out d t r h
   rw [decZ] at h
   split at h
   · have:=ih h
     have e:∀ (d:List Nat) (x:Nat),numL d ≤ numL (d ++ [x]):=by
      intro d x
      induction d with
      | nil => exact Nat.zero_le _
      | cons y d ih => rw [List.cons_append,numL,numL];omega
     have:=e d x
     omega
   · split at h
     · cases h;simp
     · split at h
       · cases h
       · have:=ih h
         simp at this
         omega
theorem gath_there {ls:List Int} {s:ByteArray} {N:Nat} (hok:okL ls = true) (hN:ls.length = 258) {t:List Nat} (h512:t.length ≤ 512):∀ {xs out d:List Nat} {a f:Nat} {r:List Bool},(∀ x ∈ xs,∃ n:Nat,ls[x]? = some (n:Int) ∧ 1 ≤ n ∧ n ≤ 15) →
 decZ out d xs = some (t,[]) → (bitsL s N).drop a = xs.flatMap (codeB ls) ++ r → N < a + f → ∃ a',gathR ls s N f out d a = (0,t,a') ∧ (bitsL s N).drop a' = r ∧ a' ≤ N ∧ a ≤ a':=by
 intro xs
 induction xs with
 | nil => intro out d a f r _ h;cases h
 | cons x xs ih =>
   intro out d a f r hx hd hb hf
   obtain ⟨n,h1,h2,h3⟩:=hx x (by simp)
   rw [List.flatMap_cons,List.append_assoc] at hb
   obtain ⟨e1,e2,e3⟩:=next_there hok h1 h2 h3 hb
   have hxl:x < 258:=by rw [← hN];exact (List.getElem?_eq_some_iff.1 h1).1
   obtain ⟨f,rfl⟩:∃ g,f = g + 1:=⟨f - 1,by omega⟩
   rw [gathR,e1]
   simp only [if_true,Int.toNat_natCast]
   rw [decZ] at hd
   by_cases g2:x < 2
   · rw [if_pos g2] at hd
     rw [if_pos (by omega)]
     obtain ⟨a',q1,q2,q3,q4⟩:=ih (f:=f) (fun y hy => hx y (List.mem_cons_of_mem _ hy)) hd e2 (by omega)
     exact ⟨a',q1,q2,q3,by omega⟩
   · rw [if_neg g2] at hd
     rw [if_neg (by omega)]
     by_cases g7:x = 257
     · rw [if_pos g7] at hd
       cases hd
       subst g7
       have hl:=h512
       rw [List.length_append,List.length_replicate] at hl
       rw [if_neg (by simp;omega),if_pos (show ((257:Nat):Int) = 257 from rfl)]
       exact ⟨a + n,rfl,by rw [e2];rfl,e3,by omega⟩
     · rw [if_neg g7,if_neg (by omega)] at hd
       have hl:=decZ_len hd
       simp only [List.length_append,List.length_replicate,List.length_singleton] at hl
       rw [if_neg (by rw [if_neg (by omega)];omega),if_neg (by omega)]
       obtain ⟨a',q1,q2,q3,q4⟩:=ih (f:=f) (fun y hy => hx y (List.mem_cons_of_mem _ hy)) hd e2 (by omega)
       exact ⟨a',q1,q2,q3,by omega⟩
theorem gathR_step {ls:List Int} {s:ByteArray} {N f a:Nat} {out d:List Nat} {x y z:Int} (h:nextC ls s N a 15 0 0 = (x,y,z)):gathR ls s N (f + 1) out d a =
 (if z = 0 then
   if x < 2 then gathR ls s N f out (d ++ [x.toNat]) y.toNat
   else if 512 < out.length + numL d + (if x = 257 then 0 else 1) then (7,[],0)
   else if x = 257 then (0,out ++ List.replicate (numL d) 0,y.toNat)
   else gathR ls s N f (out ++ List.replicate (numL d) 0 ++ [x.toNat - 1]) [] y.toNat
 else (z,[],0)):=by rw [gathR,h]
theorem gath_read {ls:List Int} {s:ByteArray} {N:Nat} (hN:ls.length = 258) {t:List Nat} {a':Nat}:∀ {f:Nat} {out d:List Nat} {a:Nat},out.length ≤ 512 → gathR ls s N f out d a = (0,t,a') →
 ∃ xs,decZ out d xs = some (t,[]) ∧ (bitsL s N).drop a = xs.flatMap (codeB ls) ++ (bitsL s N).drop a' ∧ t.length ≤ 512 ∧ a ≤ a' ∧ a' ≤ N:=by
 intro f
 induction f with
 | zero => intro out d a _ h;rw [gathR] at h;simp at h
 | succ f ih =>
   intro out d a ho h
   obtain ⟨x,y,z,hr⟩:=trip (nextC ls s N a 15 0 0)
   rw [gathR_step hr] at h
   by_cases h0:z = 0
   · rw [if_pos h0] at h
     subst h0
     obtain ⟨i,n,h1,h2,h3,h4,rfl,rfl,h7⟩:=next_read hr
     clear hr
     have hil:i < 258:=by rw [← hN];exact (List.getElem?_eq_some_iff.1 h1).1
     rw [Int.toNat_natCast,Int.toNat_natCast] at h
     by_cases g2:i < 2
     · rw [if_pos (show (i:Int) < 2 by omega)] at h
       obtain ⟨xs,q1,q2,q3,q4,q5⟩:=ih ho h
       refine ⟨i :: xs,by rw [decZ,if_pos g2,q1], ?_,q3,by omega,q5⟩
       rw [h7,q2,List.flatMap_cons,List.append_assoc]
     · rw [if_neg (show ¬ (i:Int) < 2 by omega)] at h
       by_cases g7:i = 257
       · subst g7
         rw [if_pos (show ((257:Nat):Int) = 257 from rfl),if_pos (show ((257:Nat):Int) = 257 from rfl)] at h
         by_cases gl:512 < out.length + numL d + 0
         · rw [if_pos gl] at h;simp at h
         · rw [if_neg gl] at h
           simp only [Prod.mk.injEq,true_and] at h
           obtain ⟨rfl,rfl⟩:=h
           refine ⟨[257],by rw [decZ,if_neg (by decide),if_pos rfl], ?_,by simp;omega,by omega,h4⟩
           rw [h7];simp
       · rw [if_neg (show ¬ (i:Int) = 257 by omega),if_neg (show ¬ (i:Int) = 257 by omega)] at h
         by_cases gl:512 < out.length + numL d + 1
         · rw [if_pos gl] at h;simp at h
         · rw [if_neg gl] at h
           obtain ⟨xs,q1,q2,q3,q4,q5⟩:=ih (by simp;omega) h
           refine ⟨i :: xs,by rw [decZ,if_neg g2,if_neg g7,if_neg (by omega),q1], ?_,q3,by omega,q5⟩
           rw [h7,q2,List.flatMap_cons,List.append_assoc]
   · rw [if_neg h0] at h
     simp only [Prod.mk.injEq] at h
     exact absurd h.1 h0
def segG (s:ByteArray) (N:Nat) (ls:List Nat) (b:Nat):Int × List Nat × Nat :=
 if (gathR (ls.map Int.ofNat) s N (N + 1) [] [] b).1 = 0 then
  if (gathR (ls.map Int.ofNat) s N (N + 1) [] [] b).2.1 = [] ∨ lensN (encZ 0 (gathR (ls.map Int.ofNat) s N (N + 1) [] [] b).2.1) ≠ ls then (7,[],0)
  else gathR (ls.map Int.ofNat) s N (N + 1) [] [] b
 else ((gathR (ls.map Int.ofNat) s N (N + 1) [] [] b).1,[],0)
theorem segG_eq {s:ByteArray} {N:Nat} {ls:List Nat} {b:Nat} {w:Int} {t:List Nat} {a:Nat} (h:gathR (ls.map Int.ofNat) s N (N + 1) [] [] b = (w,t,a)) :
 segG s N ls b = if w = 0 then (if t = [] ∨ lensN (encZ 0 t) ≠ ls then (7,[],0) else (w,t,a)) else (w,[],0):=by unfold segG;rw [h]
def segR (s:ByteArray) (N a:Nat):Int × List Nat × Nat :=
 if (readT s N a 258).1 = 0 then segG s N (readT s N a 258).2.1 (N - (readT s N a 258).2.2.length) else ((readT s N a 258).1,[],0)
theorem segR_eq {s:ByteArray} {N a:Nat} {w:Int} {ls:List Nat} {R:List Bool} (h:readT s N a 258 = (w,ls,R)):segR s N a = if w = 0 then segG s N ls (N - R.length) else (w,[],0):=by unfold segR;rw [h]
theorem encZ_bits {t:List Nat} (ht:∀ c ∈ t,c < 256):∀ x ∈ encZ 0 t,∃ n:Nat,(lensL (encZ 0 t))[x]? = some (n:Int) ∧ 1 ≤ n ∧ n ≤ 15:=fun x hx => seg_has hx (by have:=encZ_sym 0 ht x hx;omega)
theorem drop_len {s:ByteArray} {N a:Nat} {p r:List Bool} (h:(bitsL s N).drop a = p ++ r) (ha:a ≤ N):(bitsL s N).drop (N - r.length) = r ∧ r.length ≤ N ∧ N - r.length = a + p.length:=by
 have hl:=congrArg List.length h
 rw [List.length_drop,bitsL_length,List.length_append] at hl
 have e:N - r.length = a + p.length:=by omega
 refine ⟨?_,by omega,e⟩
 rw [e,← List.drop_drop,h,List.drop_left]
theorem seg_there {s:ByteArray} {N a:Nat} {t:List Nat} {r:List Bool} (ha:a ≤ N) (ht:∀ c ∈ t,c < 256) (h0:t ≠ []) (h512:t.length ≤ 512) (hb:(bitsL s N).drop a = segBits (encZ 0 t) ++ r) :
 ∃ a',segR s N a = (0,t,a') ∧ (bitsL s N).drop a' = r ∧ a' ≤ N ∧ a ≤ a':=by
 unfold segBits at hb
 rw [List.append_assoc] at hb
 have h1:=read_there (seg_tab (encZ 0 t)) hb
 rw [lensL_length] at h1
 have hd:=drop_len hb ha
 generalize hR:(encZ 0 t).flatMap (codeB (lensL (encZ 0 t))) ++ r = R at h1 hd hb
 have hm:(lensL (encZ 0 t)).map Int.toNat = lensN (encZ 0 t):=by
  rw [lensL_map,List.map_map]
  conv => rhs;rw [← List.map_id (lensN (encZ 0 t))]
  exact List.map_congr_left fun x _ => by show (Int.ofNat x).toNat = x;simp
 have hdec:=dec_enc ht [] 0 []
 rw [List.append_nil,List.nil_append,List.replicate_zero,List.nil_append] at hdec
 obtain ⟨a',q1,q2,q3,q4⟩:=gath_there (f:=N + 1) (a:=N - R.length) (r:=r) (seg_ok (encZ 0 t)) (lensL_length (encZ 0 t)) h512 (encZ_bits ht) hdec (by rw [hd.1,hR]) (by omega)
 refine ⟨a', ?_,q2,q3,by omega⟩
 rw [hm] at h1
 rw [segR_eq h1,if_pos rfl]
 rw [lensL_map] at q1
 rw [segG_eq q1,if_pos rfl,if_neg (by simp [h0])]
theorem seg_read {s:ByteArray} {N a:Nat} {t:List Nat} {a':Nat} (ha:a ≤ N) (h:segR s N a = (0,t,a')) :
 t ≠ [] ∧ t.length ≤ 512 ∧ (∀ c ∈ t,c < 256) ∧ (bitsL s N).drop a = segBits (encZ 0 t) ++ (bitsL s N).drop a' ∧ a ≤ a' ∧ a' ≤ N:=by
 obtain ⟨w,ls,R,hr⟩:=trip (readT s N a 258)
 rw [segR_eq hr] at h
 by_cases h0:w = 0
 · subst h0
   rw [if_pos rfl] at h
   obtain ⟨b1,b2,b3⟩:=read_bits (by decide) hr
   have hd:=drop_len b3 ha
   obtain ⟨w2,t2,a2,hg⟩:=trip (gathR (ls.map Int.ofNat) s N (N + 1) [] [] (N - R.length))
   rw [segG_eq hg] at h
   by_cases h2:w2 = 0
   · subst h2
     rw [if_pos rfl] at h
     by_cases h3:t2 = [] ∨ lensN (encZ 0 t2) ≠ ls
     · rw [if_pos h3] at h;cases h
     · rw [if_neg h3] at h
       cases h
       have hne:t ≠ []:=fun e => h3 (.inl e)
       have hls:lensN (encZ 0 t) = ls:=by
        by_cases e:lensN (encZ 0 t) = ls
        · exact e
        · exact absurd (.inr e) h3
       obtain ⟨xs,q1,q2,q3,q4,q5⟩:=gath_read (by rw [List.length_map];exact b2) (by simp) hg
       obtain ⟨t3,e1,e2,e3⟩:=enc_dec q1 (by simp)
       rw [List.nil_append] at e1
       subst e1
       rw [List.nil_append,List.append_nil] at e3
       refine ⟨hne,q3,e2, ?_,by omega,q5⟩
       unfold segBits
       rw [lensL_map,hls,List.append_assoc,← e3,← q2,hd.1]
       exact b3
   · rw [if_neg h2] at h
     simp only [Prod.mk.injEq] at h
     exact absurd h.1 h2
 · rw [if_neg h0] at h
   simp only [Prod.mk.injEq] at h
   exact absurd h.1 h0
theorem weights_step {l:List Nat} {k x:Nat} (h:l[k]? = some x) (hx:x < 258) :
 ((weightsL (l.take k)).map (Value.int .u64)).set x (.int .u64 (((l.take k).count x:Nat) + 1)) = (weightsL (l.take (k + 1))).map (Value.int .u64):=by
 apply List.ext_getElem?
 intro i
 rw [List.getElem?_set,List.take_add_one,h]
 unfold weightsL
 by_cases e:x = i
 · subst e
   rw [if_pos rfl,if_pos (by simpa using hx)]
   rw [List.getElem?_map,List.getElem?_map,List.getElem?_range hx]
   simp
 · rw [if_neg e,List.getElem?_map,List.getElem?_map,List.getElem?_map,List.getElem?_map]
   rcases Nat.lt_or_ge i 258 with g | g
   · rw [List.getElem?_range g]
     simp [List.count_append,List.count_cons,e]
   · rw [List.getElem?_eq_none (by simpa using g)];rfl
set_option maxHeartbeats 1000000 in
theorem weights_any (A:Option Addr) (l:List Nat) (c:Nat) (w:World) (h:Rd w w.heap.size A (l.map u64V)) (hl:l.length ≤ 1000000) (hx:∀ x ∈ l,x < 258) :
 Calls Tryz.prog 90 #[.slice A l.length c] w fun e w' => ∃ g,e = .returned (.slice (some ⟨g,0,none⟩) 258 258) ∧ w.heap.size ≤ g ∧ Bk w' g 22 ((weightsL l).map (Value.int .u64)).toArray ∧ Below w.heap.size w w':=by
 have H:=hide h
 have HXr:=hide hx
 clear h hx
 have hmk:∀ W:World,(Instr.makeSlice 93 (.int .i64 258) (.int .i64 258)).run Tryz.prog W = .ok (.slice (some ⟨W.heap.size,0,none⟩) 258 258) (W.alloc (.cells (madeCells #[.int .u64 0] 258) 22)):=fun W => run_make_row' (P:=Tryz.prog) 93 22 (.int .u64 0) 8 Tryz.underlying93 info_u64 rfl .i64 .i64 258 (by omega) (by omega) W
 have hz0:madeCells #[.int .u64 0] 258 = ((weightsL (l.take 0)).map (Value.int .u64)).toArray:=by rw [List.take_zero];kernel_rfl
 have HZ0:=hide hz0
 clear hz0
 go_enter Tryz.func90,Tryz.ntmps90
 go_wp2_with fail
 go_loopw [9] (fun i wr => ∃ k:Nat,k ≤ l.length ∧ i = .int .i64 k ∧ Hid (Bk wr w.heap.size 22 ((weightsL (l.take k)).map (Value.int .u64)).toArray) ∧ Below w.heap.size w wr) (fun i _ => l.length - (intOf i).toNat)
 case atStart => exact ⟨0,by omega,rfl,hide (by rw [← HZ0.out];exact Bk.new w _ _),(Below.refl _ _).alloc (Nat.le_refl _) _⟩
 case round =>
  clear HZ0 hmk
  obtain ⟨k,hk,rfl,hb,hbe⟩:=hrel
  by_cases hlt:k < l.length
  · obtain ⟨x,hx⟩:∃ x,l[k]? = some x:=⟨l[k],List.getElem?_eq_getElem hlt⟩
    have hx258:=HXr.out x (List.mem_of_getElem? hx)
    obtain ⟨b,o,hA,hbb,hc0⟩:=H.out k (u64V x) (by rw [List.getElem?_map,hx];rfl)
    subst hA
    have hc:wr.cell? ⟨b,o + k,none⟩ = some (.int .u64 (x:Nat)):=(hbe.cell (p:=⟨b,o + k,none⟩) hbb).trans hc0
    have HSt:=hide (weights_step hx hx258)
    obtain ⟨C,hC⟩:∃ C,C = (l.take k).count x:=⟨_,rfl⟩
    have hCl:C ≤ l.length:=by
     rw [hC]
     have:=List.count_le_length (a:=x) (l:=l.take k)
     rw [List.length_take] at this
     omega
    have hcw:wr.cell? ⟨w.heap.size,x,none⟩ = some (.int .u64 (C:Nat)):=by
     rw [hb.out.cell x,List.getElem?_toArray]
     unfold weightsL
     rw [List.getElem?_map,List.getElem?_map,List.getElem?_range hx258,hC];rfl
    have hfw:=hb.out.free x
    rw [← hC] at HSt
    clear hc0 hx hC
    go_wp2_with fail
    go_roundw
    case rel =>
     refine ⟨k + 1,by omega,by go_num,hide ?_,hbe.setCell (Nat.le_refl _) _⟩
     have:=hb.out.set_ x (.int .u64 ((C:Int) + 1))
     rw [List.setIfInBounds_toArray,HSt.out] at this
     exact this
    case measure => simp [intOf];omega
  · obtain rfl:k = l.length:=by omega
    have HF:=hide (show Bk wr w.heap.size 22 ((weightsL l).map (Value.int .u64)).toArray by have:=hb.out;rwa [List.take_of_length_le (Nat.le_refl _)] at this)
    clear hb
    go_wp2_with fail
    go_ret
    exact ⟨w.heap.size,rfl,Nat.le_refl _,HF.out,hbe⟩
end Go.Proofs.YtcfnjpokfodmoaaGreatDoor
