/- Lemmas for the row: OptE, PackOK, PackI, LenOK, Lives20, OwnPut. -/
import Derived.Test.YtcfnjpokfodmoaaGreatDoorM01
import Derived.Test.YtcfnjpokfodmoaaGreatDoorM04
import Derived.Test.YtcfnjpokfodmoaaGreatDoorM06
set_option maxRecDepth 100000
set_option linter.unusedVariables false
namespace Go.Proofs.YtcfnjpokfodmoaaGreatDoor
open Go.RowKit
section
variable {lw:List Nat} {L:Nat}
theorem Mk_zero (lw:List Nat) (L:Nat):Mk lw L 0 = 2 * lw.length - 2:=rfl
theorem width (h2:lw.length ≤ 2 ^ L) (hL:1 ≤ L):Mk lw L 0 * 2 ^ (L - 1) = SS (fun k => Ck lw L k * 2 ^ (L - 1 - k)) L:=by
 have step:∀ K,K < L → Mk lw L 0 * 2 ^ (L - 1) = SS (fun k => Ck lw L k * 2 ^ (L - 1 - k)) K + Mk lw L K * 2 ^ (L - 1 - K):=by
  intro K
  induction K with
  | zero => intro _;simp [SS]
  | succ K ih =>
    intro hK
    rw [ih (by omega),SS]
    have h3:=Ck_pk h2 (show K < L by omega)
    have h4:=Mk_succ (lw:=lw) (show K < L by omega)
    have e:2 ^ (L - 1 - K) = 2 * 2 ^ (L - 1 - (K + 1)):=by rw [show L - 1 - K = (L - 1 - (K + 1)) + 1 by omega,Nat.pow_succ,Nat.mul_comm]
    rw [h4,← h3,Nat.add_mul,e]
    have:2 * pkN ((lvlL lw (L - 1 - K)).take (Ck lw L K + pkN ((lvlL lw (L - 1 - K)).take (Mk lw L K)))) * 2 ^ (L - 1 - (K + 1)) = pkN ((lvlL lw (L - 1 - K)).take (Mk lw L K)) * (2 * 2 ^ (L - 1 - (K + 1))):=by
     rw [h3,Nat.mul_comm 2,Nat.mul_assoc]
    omega
 have h5:=step (L - 1) (by omega)
 obtain ⟨K,rfl⟩:∃ K,L = K + 1:=⟨L - 1,by omega⟩
 rw [SS]
 simp only [Nat.add_sub_cancel] at h5 ⊢
 have h6:=Ck_pk h2 (show K < K + 1 by omega)
 have h7:pkN ((lvlL lw (K + 1 - 1 - K)).take (Mk lw (K + 1) K)) = 0:=by
  have:=(first_pks lw [] (Mk lw (K + 1) K)).2
  rw [show K + 1 - 1 - K = 0 by omega]
  show pkN ((nxtL lw []).take _) = 0
  simp at this;exact this
 rw [h7,Nat.add_zero] at h6
 rw [h5,h6]
theorem weight (h2:lw.length ≤ 2 ^ L) (hL:1 ≤ L):sumW ((lvlL lw (L - 1)).take (2 * lw.length - 2)) = SS (fun k => (lw.take (Ck lw L k)).sum) L:=by
 have step:∀ K,K < L → sumW ((lvlL lw (L - 1)).take (2 * lw.length - 2)) = SS (fun k => (lw.take (Ck lw L k)).sum) K + sumW ((lvlL lw (L - 1 - K)).take (Mk lw L K)):=by
  intro K
  induction K with
  | zero => intro _;rw [Mk_zero];simp [SS]
  | succ K ih =>
    intro hK
    rw [ih (by omega),SS]
    have e:lvlL lw (L - 1 - K) = nxtL lw (lvlL lw (L - 1 - (K + 1))):=by rw [show L - 1 - K = (L - 1 - (K + 1)) + 1 by omega];rfl
    have h4:=Mk_succ (lw:=lw) (show K < L by omega)
    have h5:=first_sum lw (lvlL lw (L - 1 - (K + 1))) (Mk lw L K)
    have hC:Ck lw L K = lfC lw (lvlL lw (L - 1 - (K + 1))) (Mk lw L K):=by
     unfold Ck;rw [if_pos (by omega),show L - 1 - K = (L - 1 - (K + 1)) + 1 by omega];rfl
    rw [h4,e,h5,hC];omega
 have h5:=step (L - 1) (by omega)
 obtain ⟨K,rfl⟩:∃ K,L = K + 1:=⟨L - 1,by omega⟩
 rw [SS]
 simp only [Nat.add_sub_cancel] at h5 ⊢
 rw [h5]
 congr 1
 have hC:Ck lw (K + 1) K = lfC lw [] (Mk lw (K + 1) K):=by
  unfold Ck;rw [if_pos (by omega),show K + 1 - 1 - K = 0 by omega];rfl
 rw [show K - K = 0 by omega,hC]
 show sumW ((nxtL lw []).take _) = _
 rw [first_sum];simp [sumW]
theorem kraft (hs:lw.Pairwise fun a b => a ≤ b) (h2:lw.length ≤ 2 ^ L) (hL:1 ≤ L) (hn:2 ≤ lw.length):SS (fun i => 2 ^ (L - (cntL lw L).getD i 0)) lw.length = 2 ^ L:=by
 have h:=width h2 hL
 have e1:SS (fun k => Ck lw L k * 2 ^ (L - 1 - k)) L = SS (fun i => SS (fun k => if i < Ck lw L k then 2 ^ (L - 1 - k) else 0) L) lw.length:=by
  rw [SS_swap]
  exact SS_congr fun k _ => by rw [SS_cut (Ck_le k),SS_const]
 have e2:SS (fun i => SS (fun k => if i < Ck lw L k then 2 ^ (L - 1 - k) else 0) L) lw.length = SS (fun i => SS (fun k => if k < (cntL lw L).getD i 0 then 2 ^ (L - 1 - k) else 0) L) lw.length :=
  SS_congr fun i _ => SS_congr fun k hk => by
   by_cases e:i < Ck lw L k
   · rw [if_pos e,if_pos ((cnt_lt hs hk).1 e)]
   · rw [if_neg e,if_neg (fun h => e ((cnt_lt hs hk).2 h))]
 have e3:SS (fun i => SS (fun k => if k < (cntL lw L).getD i 0 then 2 ^ (L - 1 - k) else 0) L) lw.length + SS (fun i => 2 ^ (L - (cntL lw L).getD i 0)) lw.length = lw.length * 2 ^ L:=by
  rw [← SS_add,← SS_const]
  exact SS_congr fun i _ => SS_pow L _ (cnt_limit i)
 rw [e1,e2,Mk_zero] at h
 have e4:(2 * lw.length - 2) * 2 ^ (L - 1) = lw.length * 2 ^ L - 2 ^ L:=by
  obtain ⟨m,hm⟩:∃ m,lw.length = m + 1:=⟨lw.length - 1,by omega⟩
  obtain ⟨K,rfl⟩:∃ K,L = K + 1:=⟨L - 1,by omega⟩
  rw [hm,Nat.add_sub_cancel,Nat.pow_succ,show 2 * (m + 1) - 2 = m * 2 by omega,Nat.mul_assoc,Nat.mul_comm 2 (2 ^ K),Nat.add_mul];omega
 have e5:2 ^ L ≤ lw.length * 2 ^ L:=Nat.le_mul_of_pos_left _ (by omega)
 omega
theorem cnt_pos (hs:lw.Pairwise fun a b => a ≤ b) (h2:lw.length ≤ 2 ^ L) (hL:1 ≤ L) (hn:2 ≤ lw.length) {i:Nat} (hi:i < lw.length):1 ≤ (cntL lw L).getD i 0:=by
 refine Nat.pos_of_ne_zero fun h0 => ?_
 have h:=kraft hs h2 hL hn
 obtain ⟨j,hj,hne⟩:∃ j,j < lw.length ∧ i ≠ j:=by
  by_cases e:i = 0
  · exact ⟨1,by omega,by omega⟩
  · exact ⟨0,by omega,e⟩
 have h3:=SS_two (f:=fun i => 2 ^ (L - (cntL lw L).getD i 0)) hi hj hne
 rw [h0,Nat.sub_zero] at h3
 have:=Nat.two_pow_pos (L - (cntL lw L).getD j 0)
 omega
theorem cost_eq (h2:lw.length ≤ 2 ^ L) (hL:1 ≤ L):SS (fun i => lw.getD i 0 * (cntL lw L).getD i 0) lw.length = sumW ((lvlL lw (L - 1)).take (2 * lw.length - 2)):=by
 rw [weight h2 hL]
 have e1:SS (fun i => lw.getD i 0 * (cntL lw L).getD i 0) lw.length = SS (fun i => SS (fun k => if i < Ck lw L k then lw.getD i 0 else 0) L) lw.length :=
  SS_congr fun i _ => by
   rw [cntL_get,← SS_mul]
   exact SS_congr fun k _ => by split <;> simp
 rw [e1,SS_swap]
 exact SS_congr fun k _ => by rw [SS_cut (Ck_le k),SS_take lw _ (Ck_le k)]
theorem cnt_least (hs:lw.Pairwise fun a b => a ≤ b) (h2:lw.length ≤ 2 ^ L) (hL:1 ≤ L) (hn:2 ≤ lw.length) (l:Nat → Nat) (hl:∀ i,i < lw.length → l i ≤ L) (hroom:SS (fun i => 2 ^ (L - l i)) lw.length ≤ 2 ^ L) :
 SS (fun i => lw.getD i 0 * (cntL lw L).getD i 0) lw.length ≤ SS (fun i => lw.getD i 0 * l i) lw.length:=by
 rw [cost_eq h2 hL]
 -- the coins of level t (from the lowest): of those whose length is beyond L-1-t
 have hc:∀ t,SS (fun i => if L - 1 - t < l i then 1 else 0) lw.length ≤ lw.length:=fun t => by
  have:SS (fun i => if L - 1 - t < l i then 1 else 0) lw.length ≤ SS (fun _ => 1) lw.length:=SS_le fun i _ => by split <;> omega
  rw [SS_const] at this;omega
 have hw:(2 * lw.length - 2) * 2 ^ (L - 1) ≤ upS (fun t => SS (fun i => if L - 1 - t < l i then 1 else 0) lw.length * 2 ^ t) (L - 1):=by
  rw [upS_eq,show L - 1 + 1 = L by omega]
  have e1:SS (fun t => SS (fun i => if L - 1 - t < l i then 1 else 0) lw.length * 2 ^ t) L = SS (fun i => SS (fun t => if L - 1 - t < l i then 2 ^ t else 0) L) lw.length:=by
   rw [SS_swap]
   exact SS_congr fun t _ => by
    rw [Nat.mul_comm,← SS_mul]
    exact SS_congr fun i _ => by split <;> simp
  have e2:∀ i,SS (fun t => if L - 1 - t < l i then 2 ^ t else 0) L = SS (fun k => if k < l i then 2 ^ (L - 1 - k) else 0) L:=fun i => by
   rw [← SS_rev]
   exact SS_congr fun k hk => by rw [show L - 1 - (L - 1 - k) = k by omega]
  have e3:SS (fun i => SS (fun t => if L - 1 - t < l i then 2 ^ t else 0) L) lw.length + SS (fun i => 2 ^ (L - l i)) lw.length = lw.length * 2 ^ L:=by
   rw [← SS_add,← SS_const]
   exact SS_congr fun i hi => by rw [e2];exact SS_pow L _ (hl i hi)
  rw [e1]
  have e4:(2 * lw.length - 2) * 2 ^ (L - 1) = lw.length * 2 ^ L - 2 ^ L:=by
   obtain ⟨m,hm⟩:∃ m,lw.length = m + 1:=⟨lw.length - 1,by omega⟩
   obtain ⟨K,rfl⟩:∃ K,L = K + 1:=⟨L - 1,by omega⟩
   rw [hm,Nat.add_sub_cancel,Nat.pow_succ,show 2 * (m + 1) - 2 = m * 2 by omega,Nat.mul_assoc,Nat.mul_comm 2 (2 ^ K),Nat.add_mul];omega
  omega
 have h:=(coins_least hs (L - 1) (2 * lw.length - 2) _ hc hw).2
 refine Nat.le_trans h ?_
 rw [upS_eq,show L - 1 + 1 = L by omega]
 have rise:∀ i j,i ≤ j → j < lw.length → lw.getD i 0 ≤ lw.getD j 0:=by
  intro i j hij hj
  rw [List.getD_eq_getElem?_getD,List.getD_eq_getElem?_getD,List.getElem?_eq_getElem hj,List.getElem?_eq_getElem (by omega:i < lw.length)]
  rcases Nat.lt_or_ge i j with e | e
  · exact List.pairwise_iff_getElem.1 hs i j (by omega) hj e
  · obtain rfl:i = j:=by omega
    exact Nat.le_refl _
 have part:∀ t,(lw.take (SS (fun i => if L - 1 - t < l i then 1 else 0) lw.length)).sum ≤ SS (fun i => if L - 1 - t < l i then lw.getD i 0 else 0) lw.length:=fun t => by
  rw [← SS_take lw _ (hc t)]
  exact (SS_part (f:=fun i => lw.getD i 0) (fun i => L - 1 - t < l i) lw.length rise).2
 refine Nat.le_trans (SS_le fun t _ => part t) ?_
 rw [← SS_swap]
 refine SS_le fun i hi => ?_
 have e:SS (fun t => if L - 1 - t < l i then lw.getD i 0 else 0) L = SS (fun k => if k < l i then lw.getD i 0 else 0) L:=by
  rw [← SS_rev]
  exact SS_congr fun k hk => by rw [show L - 1 - (L - 1 - k) = k by omega]
 rw [e,SS_cut (hl i hi),SS_const,Nat.mul_comm]
 exact Nat.le_refl _
end
theorem SS_list (l:List Nat) (f:Nat → Nat):SS (fun i => f (l.getD i 0)) l.length = (l.map f).sum:=by
 have h:=SS_take (l.map f) l.length (by simp)
 rw [List.take_of_length_le (by simp)] at h
 rw [← h]
 refine SS_congr fun i hi => ?_
 rw [List.getD_eq_getElem?_getD,List.getD_eq_getElem?_getD,List.getElem?_map,List.getElem?_eq_getElem hi];rfl
theorem sum_perm {a b:List Nat} (h:a.Perm b):a.sum = b.sum:=by
 induction h with
 | nil => rfl
 | cons x _ ih => rw [List.sum_cons,List.sum_cons,ih]
 | swap x y l => rw [List.sum_cons,List.sum_cons,List.sum_cons,List.sum_cons];omega
 | trans _ _ ih1 ih2 => rw [ih1,ih2]
theorem sum_ord (ws:List Int) (f:Nat → Nat):SS f ws.length = SS (fun i => f ((ordL ws).getD i 0)) (ordL ws).length + SS (fun s => if 0 < ws.getD s 0 then 0 else f s) ws.length:=by
 rw [SS_list,sum_perm ((ordL_perm ws).map f)]
 unfold symL
 have key:∀ k,SS f k = ((symK ws k).map f).sum + SS (fun s => if 0 < ws.getD s 0 then 0 else f s) k:=by
  intro k
  induction k with
  | zero => rfl
  | succ k ih =>
    rw [SS,ih,symK_step,List.map_append,List.sum_append,SS]
    by_cases h:0 < ws.getD k 0
    · rw [if_pos h,if_pos h];simp;omega
    · rw [if_neg h,if_neg h];simp;omega
 exact key _
theorem ord_nodup (ws:List Int):(ordL ws).Nodup:=(ordL_sorted ws).imp fun h e => by subst e;exact Lx.irrefl h
theorem ord_get {ws:List Int} {i:Nat} (h:i < (ordL ws).length):(ordL ws).getD i 0 < ws.length ∧ 0 < ws.getD ((ordL ws).getD i 0) 0:=by
 have e:(ordL ws).getD i 0 = (ordL ws)[i]:=by rw [List.getD_eq_getElem?_getD,List.getElem?_eq_getElem h];rfl
 rw [e];exact ordL_lt (List.getElem_mem h)
theorem ord_has {ws:List Int} {s:Nat} (hs:s < ws.length) (h:0 < ws.getD s 0):∃ i,i < (ordL ws).length ∧ (ordL ws).getD i 0 = s:=by
 have hm:s ∈ ordL ws:=(ordL_perm ws).symm.subset (symK_mem hs h)
 obtain ⟨i,hi,e⟩:=List.getElem_of_mem hm
 exact ⟨i,hi,by rw [List.getD_eq_getElem?_getD,List.getElem?_eq_getElem hi];exact e⟩
theorem lwL_sorted (ws:List Int):(lwL ws).Pairwise fun a b => a ≤ b:=by
 unfold lwL
 rw [List.pairwise_map]
 exact (ordL_sorted ws).imp fun h => by unfold Lx at h;omega
theorem fill_out {ps:List (Nat × Nat)} {s:Nat}:∀ {z:List Nat},(∀ p ∈ ps,p.1 ≠ s) → (fill z ps).getD s 0 = z.getD s 0:=by
 induction ps with
 | nil => intro z _;rfl
 | cons p ps ih =>
   intro z h
   show (fill (z.set p.1 p.2) ps).getD s 0 = _
   rw [ih (fun q hq => h q (List.mem_cons_of_mem _ hq)),List.getD_eq_getElem?_getD,List.getElem?_set_ne (h p (by simp)),← List.getD_eq_getElem?_getD]
theorem fill_in {o c:List Nat} (hn:o.Nodup):∀ {z:List Nat},(∀ s ∈ o,s < z.length) → o.length = c.length → ∀ i,i < o.length → (fill z (o.zip c)).getD (o.getD i 0) 0 = c.getD i 0:=by
 induction o generalizing c with
 | nil => intro z _ _ i hi;simp at hi
 | cons s o ih =>
   intro z hz hl i hi
   cases c with
   | nil => simp at hl
   | cons v c =>
     have hn':=List.nodup_cons.1 hn
     show (fill (z.set s v) (o.zip c)).getD _ 0 = _
     cases i with
     | zero =>
       show (fill (z.set s v) (o.zip c)).getD s 0 = v
       rw [fill_out (fun p hp e => by
        have:=(List.of_mem_zip (show (p.1,p.2) ∈ o.zip c from hp)).1
        rw [e] at this;exact hn'.1 this),List.getD_eq_getElem?_getD,List.getElem?_set_self (hz s (by simp))];rfl
     | succ i =>
       exact ih hn'.2 (z:=z.set s v) (fun t ht => by rw [List.length_set];exact hz t (List.mem_cons_of_mem _ ht)) (by simpa using hl) i (by simpa using hi)
structure PackOK (ws:List Int) (L:Nat) (q:Nat → Nat):Prop where
 at_:∀ i,i < (ordL ws).length → (packL ws L).getD ((ordL ws).getD i 0) 0 = q i
 out:∀ s,¬ 0 < ws.getD s 0 → (packL ws L).getD s 0 = 0
 pos:∀ i,i < (ordL ws).length → 1 ≤ q i ∧ q i ≤ L
 fall:∀ i j,i ≤ j → j < (ordL ws).length → q j ≤ q i
 full:2 ≤ (ordL ws).length → SS (fun i => 2 ^ (L - q i)) (ordL ws).length = 2 ^ L
 least:∀ l:Nat → Nat,(∀ i,i < (ordL ws).length → 1 ≤ l i ∧ l i ≤ L) → SS (fun i => 2 ^ (L - l i)) (ordL ws).length ≤ 2 ^ L →
  SS (fun i => (lwL ws).getD i 0 * q i) (ordL ws).length ≤ SS (fun i => (lwL ws).getD i 0 * l i) (ordL ws).length
theorem packOK (ws:List Int) {L:Nat} (hL:1 ≤ L) (h2:(ordL ws).length ≤ 2 ^ L):∃ q,PackOK ws L q:=by
 have hlw:=lwL_length ws
 rcases (show (ordL ws).length = 0 ∨ (ordL ws).length = 1 ∨ 2 ≤ (ordL ws).length by omega) with h | h | h
 · have hp:packL ws L = List.replicate ws.length 0:=by unfold packL;rw [if_pos h]
   refine ⟨fun _ => 1,⟨fun i hi => by omega,fun s _ => ?_,fun i hi => by omega,fun i j _ hj => by omega,fun h3 => by omega,fun l _ _ => by rw [h];exact Nat.le_refl _⟩⟩
   rw [hp,List.getD_eq_getElem?_getD,List.getElem?_replicate];split <;> rfl
 · have hp:packL ws L = (List.replicate ws.length 0).set ((ordL ws).getD 0 0) 1:=by unfold packL;rw [if_neg (by omega),if_pos h]
   have hg:=ord_get (ws:=ws) (i:=0) (by omega)
   refine ⟨fun _ => 1,⟨fun i hi => ?_,fun s hs => ?_,fun i hi => ⟨by omega,hL⟩,fun i j _ hj => by omega,fun h3 => by omega,fun l hl _ => ?_⟩⟩
   · obtain rfl:i = 0:=by omega
     rw [hp,List.getD_eq_getElem?_getD,List.getElem?_set_self (by simpa using hg.1)];rfl
   · rw [hp,List.getD_eq_getElem?_getD,List.getElem?_set_ne (fun e => hs (by rw [← e];exact hg.2)),List.getElem?_replicate];split <;> rfl
   · exact SS_le fun i hi => Nat.mul_le_mul_left _ (hl i hi).1
 · have hp:packL ws L = fill (List.replicate ws.length 0) ((ordL ws).zip (cntL (lwL ws) L)):=by unfold packL;rw [if_neg (by omega),if_neg (by omega)]
   have hs:=lwL_sorted ws
   have h2':(lwL ws).length ≤ 2 ^ L:=by rw [hlw];exact h2
   have h':2 ≤ (lwL ws).length:=by omega
   refine ⟨fun i => (cntL (lwL ws) L).getD i 0,⟨fun i hi => ?_,fun s hs' => ?_,fun i hi => ⟨cnt_pos hs h2' hL h' (by omega),cnt_limit i⟩,fun i j hij _ => cnt_fall hij,fun _ => ?_,fun l hl hr => ?_⟩⟩
   · rw [hp]
     exact fill_in (ord_nodup ws) (fun s hs => by have:=(ordL_lt hs).1;simpa using this) (by rw [cntL_length,hlw]) i hi
   · rw [hp,fill_out (fun p hp e => by
      have:=(List.of_mem_zip (show (p.1,p.2) ∈ (ordL ws).zip (cntL (lwL ws) L) from hp)).1
      rw [e] at this;exact hs' (ordL_lt this).2),List.getD_eq_getElem?_getD,List.getElem?_replicate];split <;> rfl
   · have:=kraft hs h2' hL h'
     rwa [hlw] at this
   · have:=cnt_least hs h2' hL h' l (fun i hi => (hl i (by omega)).2) (by rw [hlw];exact hr)
     rwa [hlw] at this
theorem usedL_SS (L:Nat) (ls:List Int):usedL L ls = SS (fun s => if 0 < ls.getD s 0 then 2 ^ (L - (ls.getD s 0).toNat) else 0) ls.length:=by
 have key:∀ k,k ≤ ls.length → usedL L (ls.take k) = SS (fun s => if 0 < ls.getD s 0 then 2 ^ (L - (ls.getD s 0).toNat) else 0) k:=by
  intro k
  induction k with
  | zero => intro _;simp [usedL,SS]
  | succ k ih =>
    intro hk
    have hx:ls[k]? = some ls[k]:=by simp [show k < ls.length by omega]
    rw [usedL_step hx,ih (by omega),SS,List.getD_eq_getElem?_getD,hx];rfl
 have:=key ls.length (Nat.le_refl _)
 rwa [List.take_of_length_le (Nat.le_refl _)] at this
def packI (ws:List Int) (L:Nat):List Int:=(packL ws L).map Int.ofNat
theorem packI_length (ws:List Int) (L:Nat):(packI ws L).length = ws.length:=by unfold packI;rw [List.length_map,packL_length]
theorem packI_get (ws:List Int) (L s:Nat):(packI ws L).getD s 0 = ((packL ws L).getD s 0:Nat):=by
 unfold packI
 rw [List.getD_eq_getElem?_getD,List.getElem?_map,List.getD_eq_getElem?_getD]
 cases (packL ws L)[s]? <;> rfl
section
variable {ws:List Int} {L:Nat} {q:Nat → Nat}
theorem PackOK.le (h:PackOK ws L q) (s:Nat):(packL ws L).getD s 0 ≤ L:=by
 by_cases hs:s < ws.length
 · by_cases hp:0 < ws.getD s 0
   · obtain ⟨i,hi,e⟩:=ord_has hs hp
     rw [← e,h.at_ i hi];exact (h.pos i hi).2
   · rw [h.out s hp];omega
 · rw [List.getD_eq_getElem?_getD,List.getElem?_eq_none (by rw [packL_length];omega)];exact Nat.zero_le _
theorem PackOK.has (h:PackOK ws L q) {s:Nat} (hs:s < ws.length):0 < ws.getD s 0 ↔ 0 < (packL ws L).getD s 0:=by
 by_cases hp:0 < ws.getD s 0
 · obtain ⟨i,hi,e⟩:=ord_has hs hp
   have:=(h.pos i hi).1
   rw [← h.at_ i hi,e] at this
   exact ⟨fun _ => this,fun _ => hp⟩
 · rw [h.out s hp]
   exact ⟨fun h => absurd h hp,fun h => by omega⟩
theorem PackOK.room (h:PackOK ws L q) (h1:1 ≤ L) (h15:L ≤ 15) (h512:ws.length ≤ 512):roomW (packI ws L) L = 0:=by
 unfold roomW
 rw [if_neg (by rw [packI_length];omega),if_neg]
 intro hb
 obtain ⟨x,hx,hbad⟩:=List.any_eq_true.1 hb
 obtain ⟨s,hs,rfl⟩:=List.getElem_of_mem hx
 have e:(packI ws L)[s] = ((packL ws L).getD s 0:Nat):=by
  rw [← packI_get,List.getD_eq_getElem?_getD,List.getElem?_eq_getElem hs];rfl
 have:=h.le s
 rw [e] at hbad
 unfold badL at hbad
 simp only [Bool.or_eq_true,decide_eq_true_eq] at hbad
 omega
theorem PackOK.used (h:PackOK ws L q):usedL L (packI ws L) = SS (fun i => 2 ^ (L - q i)) (ordL ws).length:=by
 rw [usedL_SS,packI_length,sum_ord ws]
 have e2:SS (fun s => if 0 < ws.getD s 0 then 0 else if 0 < (packI ws L).getD s 0 then 2 ^ (L - ((packI ws L).getD s 0).toNat) else 0) ws.length = 0:=by
  rw [SS_congr (g:=fun _ => 0) (fun s hs => ?_),SS_zero]
  by_cases hp:0 < ws.getD s 0
  · rw [if_pos hp]
  · rw [if_neg hp,packI_get,h.out s hp];rfl
 rw [e2,Nat.add_zero]
 refine SS_congr fun i hi => ?_
 have hp:=(h.pos i hi).1
 rw [packI_get,h.at_ i hi,if_pos (by omega)];rfl
end
theorem packL_one {ws:List Int} {L:Nat} (h:(ordL ws).length = 1):(packL ws L).getD ((ordL ws).getD 0 0) 0 = 1:=by
 have hp:packL ws L = (List.replicate ws.length 0).set ((ordL ws).getD 0 0) 1:=by unfold packL;rw [if_neg (by omega),if_pos h]
 have hg:=ord_get (ws:=ws) (i:=0) (by omega)
 rw [hp,List.getD_eq_getElem?_getD,List.getElem?_set_self (by simpa using hg.1)];rfl
theorem posL_SS (ls:List Int):posL ls = SS (fun s => if 0 < ls.getD s 0 then 1 else 0) ls.length:=by
 have key:∀ k,k ≤ ls.length → posL (ls.take k) = SS (fun s => if 0 < ls.getD s 0 then 1 else 0) k:=by
  intro k
  induction k with
  | zero => intro _;simp [posL,SS]
  | succ k ih =>
    intro hk
    have hx:ls[k]? = some ls[k]:=by simp [show k < ls.length by omega]
    rw [posL_step hx,ih (by omega),SS,List.getD_eq_getElem?_getD,hx];rfl
 have:=key ls.length (Nat.le_refl _)
 rwa [List.take_of_length_le (Nat.le_refl _)] at this
section
variable {ws:List Int} {q:Nat → Nat}
theorem PackOK.many {L:Nat} (h:PackOK ws L q):posL (packI ws L) = (ordL ws).length:=by
 rw [posL_SS,packI_length,sum_ord ws]
 have e2:SS (fun s => if 0 < ws.getD s 0 then 0 else if 0 < (packI ws L).getD s 0 then 1 else 0) ws.length = 0:=by
  rw [SS_congr (g:=fun _ => 0) (fun s hs => ?_),SS_zero]
  by_cases hp:0 < ws.getD s 0
  · rw [if_pos hp]
  · rw [if_neg hp,packI_get,h.out s hp];rfl
 rw [e2,Nat.add_zero,SS_congr (g:=fun _ => 1) (fun i hi => ?_),SS_const,Nat.mul_one]
 have hp:=(h.pos i hi).1
 rw [packI_get,h.at_ i hi,if_pos (by omega)]
theorem PackOK.right (h:PackOK ws 15 q) (h512:ws.length ≤ 512):okL (packI ws 15) = true:=by
 have hr:=h.room (by omega) (by omega) h512
 rw [show ((15:Nat):Int) = 15 from rfl] at hr
 unfold okL
 rw [hr,h.used,h.many]
 simp only [decide_true,Bool.true_and,Bool.or_eq_true,Bool.and_eq_true,decide_eq_true_eq]
 rcases (show (ordL ws).length = 0 ∨ (ordL ws).length = 1 ∨ 2 ≤ (ordL ws).length by omega) with e | e | e
 · exact .inl (.inr e)
 · refine .inr ⟨e, ?_⟩
   have h1:=packL_one (L:=15) e
   have hg:=(ord_get (ws:=ws) (i:=0) (by omega)).1
   have h2:=packI_get ws 15 ((ordL ws).getD 0 0)
   have hg2:(ordL ws).getD 0 0 < (packI ws 15).length:=by rw [packI_length];exact hg
   rw [h1,List.getD_eq_getElem?_getD,List.getElem?_eq_getElem hg2] at h2
   unfold hasL
   have h3:=List.getElem_mem hg2
   rw [show (packI ws 15)[(ordL ws).getD 0 0] = 1 from h2] at h3
   exact List.elem_iff.2 h3
 · exact .inl (.inl (by rw [h.full e]))
end
theorem bkRd {w:World} {g:Nat} {t:TypeId} {xs:List Value} (h:Bk w g t xs.toArray):Rd w w.heap.size (some ⟨g,0,none⟩) xs:=fun i u hu =>
 ⟨g,0,rfl,h.lt,by rw [Nat.zero_add,h.cell i,List.getElem?_toArray];exact hu⟩
theorem lengths_yes (A:Option Addr) (ws:List Int) (ca:Nat) (lim:Int) (w:World) (hA:Rd w w.heap.size A (ws.map (.int .u64))) (hla:ws.length ≤ 9223372036854775807) (hws:∀ x ∈ ws,0 ≤ x) (hlim:I64 lim) (h0:packW ws lim = 0) :
 Calls Tryz.prog 89 #[.slice A ws.length ca,.int .i64 lim] w fun e w' => (∃ A' c,e = .returned (.tuple #[.slice A' ws.length c,.int .i64 0]) ∧ Rd w' w'.heap.size A' (((packL ws lim.toNat).map Int.ofNat).map (.int .i64)) ∧ ∀ a,A' = some a → w.heap.size ≤ a.block) ∧ Below w.heap.size w w':=by
 refine Calls.mono (lengths_any A ws ca lim w hA hla hws hlim) ?_
 rintro e w' ⟨hb,⟨_,A',c,rfl,hr,hf⟩ | ⟨hne,_⟩⟩
 · refine ⟨⟨A',c,rfl, ?_,hf⟩,hb⟩
   rw [List.map_map];exact hr
 · exact absurd h0 hne
theorem own_put {w:World} {base e n i g c:Nat} {xs:List Value} (h:w.ownsRow base e 1 (.slice (some ⟨g,0,none⟩) n c) n xs) (u:Value):(w.setCell ⟨g,i,none⟩ u).ownsRow base e 1 (.slice (some ⟨g,0,none⟩) n c) n (xs.set i u):=by
 refine ⟨by rw [List.length_set];exact h.1,.inr ?_⟩
 rcases h.2 with ⟨hv,_⟩ | ⟨g',cap,cur,hv,hb,hg,hnc,hcm,hcs,ht⟩
 · simp at hv
 · simp only [Value.slice.injEq,Option.some.injEq,Addr.mk.injEq,true_and,and_true] at hv
   obtain ⟨rfl,rfl⟩:=hv
   refine ⟨g,c,cur.setIfInBounds i u,rfl,hb,Bk.set_ (show Bk w g e cur from hg) i u,hnc,hcm,by simpa using hcs, ?_⟩
   rw [Array.toList_setIfInBounds,List.take_set,ht]
theorem own_at {w:World} {base e n g c:Nat} {xs:List Value} (h:w.ownsRow base e 1 (.slice (some ⟨g,0,none⟩) n c) n xs) {i:Nat} {u:Value} (hi:xs[i]? = some u):w.cell? ⟨g,i,none⟩ = some u ∧ w.frozen? ⟨g,i,none⟩ = false:=by
 obtain ⟨b,o,e1,_,hc⟩:=own_rd h i u hi
 cases e1
 refine ⟨by rw [Nat.zero_add] at hc;exact hc, ?_⟩
 rcases h.2 with ⟨hv,_⟩ | ⟨g',cap,cur,hv,hb,hg,hnc,hcm,hcs,ht⟩
 · simp at hv
 · simp only [Value.slice.injEq,Option.some.injEq,Addr.mk.injEq,true_and,and_true] at hv
   obtain ⟨rfl,rfl⟩:=hv
   exact Bk.free (show Bk w g e cur from hg) i
end Go.Proofs.YtcfnjpokfodmoaaGreatDoor
