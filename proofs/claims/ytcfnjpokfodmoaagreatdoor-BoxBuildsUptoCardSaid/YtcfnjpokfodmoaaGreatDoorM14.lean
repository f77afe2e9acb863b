/- Lemmas for the row: OptD, OptE, PackOK, PackI, LenOK, Lives20, OwnPut, RefPut, RefBoth, RefPlain, RefOrd, RefC. -/
import Derived.Test.YtcfnjpokfodmoaaGreatDoorM01
import Derived.Test.YtcfnjpokfodmoaaGreatDoorM04
import Derived.Test.YtcfnjpokfodmoaaGreatDoorM10
import Derived.BigRegion
set_option maxRecDepth 100000
set_option linter.unusedVariables false
namespace Go.Proofs.YtcfnjpokfodmoaaGreatDoor
open Go.RowKit
def pv (lw:List Nat):Nat → List It
 | 0 => []
 | j + 1 => lvlL lw j
theorem lvl_pv (lw:List Nat) (j:Nat):lvlL lw j = nxtL lw (pv lw j):=by cases j <;> rfl
theorem pkgs_get:∀ (q i:Nat) (l:List It) {x y:It},l[2 * q]? = some x → l[2 * q + 1]? = some y → ∃ p,(pkgs i l)[q]? = some p ∧ p.w = x.w + y.w:=by
 intro q
 induction q with
 | zero =>
   intro i l x y hx hy
   match l,hx,hy with
   | a :: b :: r,hx,hy =>
     simp at hx hy
     subst hx hy
     exact ⟨_,by rw [pkgs];rfl,rfl⟩
 | succ q ih =>
   intro i l x y hx hy
   match l,hx,hy with
   | a :: b :: r,hx,hy =>
     rw [show 2 * (q + 1) = 2 * q + 1 + 1 by omega,List.getElem?_cons_succ,List.getElem?_cons_succ] at hx
     rw [show 2 * (q + 1) + 1 = 2 * q + 1 + 1 + 1 by omega,List.getElem?_cons_succ,List.getElem?_cons_succ] at hy
     obtain ⟨p,h1,h2⟩:=ih (i + 2) r hx hy
     exact ⟨p,by rw [pkgs,List.getElem?_cons_succ];exact h1,h2⟩
theorem leafIts_get {k c:Nat} {lw:List Nat} {x:Nat} (h:lw[c]? = some x):(leafIts k lw)[c]? = some ⟨x,(k + c:Nat),0⟩:=by
 induction lw generalizing k c with
 | nil => simp at h
 | cons w l ih =>
   cases c with
   | zero => simp at h;subst h;rfl
   | succ c =>
     rw [leafIts,List.getElem?_cons_succ,ih (by simpa using h)]
     congr 2;omega
theorem bump_lfs (c:List Nat) (l:List It):bump c l = bump c (lfs l):=by
 induction l generalizing c with
 | nil => rfl
 | cons x l ih =>
   rw [lfs_cons]
   show bump (bump1 c x) l = _
   by_cases h:0 ≤ x.leaf
   · rw [if_pos h,ih];rfl
   · rw [if_neg h,ih];unfold bump1;rw [if_neg h]
theorem bump_leaves (i:Nat):∀ (l:List Nat) (k:Nat) (c:List Nat),k + l.length ≤ c.length → (bump c (leafIts k l)).getD i 0 = c.getD i 0 + (if k ≤ i ∧ i < k + l.length then 1 else 0):=by
 intro l
 induction l with
 | nil => intro k c _;show c.getD i 0 = _;rw [if_neg (by rw [List.length_nil];omega)];omega
 | cons w l ih =>
   intro k c h
   rw [List.length_cons] at h
   show (bump (bump1 c ⟨w,k,0⟩) (leafIts (k + 1) l)).getD i 0 = _
   rw [ih (k + 1) _ (by rw [bump1_length];omega)]
   have hb:bump1 c ⟨w,k,0⟩ = c.set k (c.getD k 0 + 1):=by
    unfold bump1
    exact if_pos (by show (0:Int) ≤ (k:Int);omega)
   rw [hb,List.length_cons]
   by_cases e:i = k
   · subst e
     rw [List.getD_eq_getElem?_getD,List.getElem?_set_self (by omega),if_neg (by omega),if_pos (by omega)];rfl
   · rw [List.getD_eq_getElem?_getD,List.getElem?_set_ne (by omega),← List.getD_eq_getElem?_getD]
     congr 1
     by_cases e2:k + 1 ≤ i ∧ i < k + 1 + l.length
     · rw [if_pos e2,if_pos (by omega)]
     · rw [if_neg e2,if_neg (by omega)]
section
variable (lw:List Nat) (L:Nat)
def Mk (k:Nat):Nat:=(stC lw.length ((lvls lw L).reverse.take k)).1
def Ck (k:Nat):Nat:=if k < L then lfC lw (pv lw (L - 1 - k)) (Mk lw L k) else 0
end
section
variable {lw:List Nat} {L:Nat}
theorem st_succ {k:Nat} (h:k < L):stC lw.length ((lvls lw L).reverse.take (k + 1)) = stepC (stC lw.length ((lvls lw L).reverse.take k)) (lvlL lw (L - 1 - k)):=by
 rw [List.take_add_one,lvls_rev h]
 show stC _ (_ ++ [_]) = _
 rw [stC_snoc]
theorem Mk_succ {k:Nat} (h:k < L):Mk lw L (k + 1) = 2 * pkN ((lvlL lw (L - 1 - k)).take (Mk lw L k)):=by
 unfold Mk
 rw [st_succ h];rfl
theorem Mk_fits (h2:lw.length ≤ 2 ^ L) {k:Nat} (h:k < L):Mk lw L k ≤ (lvlL lw (L - 1 - k)).length:=st_fits h2 (lvls_rev h)
theorem Ck_pk (h2:lw.length ≤ 2 ^ L) {k:Nat} (h:k < L):Ck lw L k + pkN ((lvlL lw (L - 1 - k)).take (Mk lw L k)) = Mk lw L k:=by
 have:=first_len lw (pv lw (L - 1 - k)) (m:=Mk lw L k) (by rw [← lvl_pv];exact Mk_fits h2 h)
 unfold Ck
 rw [if_pos h,lvl_pv];exact this
theorem Ck_le (k:Nat):Ck lw L k ≤ lw.length:=by
 unfold Ck
 split
 · exact (first_lfs _ _ _).2
 · omega
theorem Ck_fall (hs:lw.Pairwise fun a b => a ≤ b) (k:Nat):Ck lw L (k + 1) ≤ Ck lw L k:=by
 by_cases hk:k + 1 < L
 · refine Nat.le_of_not_lt fun hlt => ?_
   obtain ⟨j,hj⟩:∃ j,L - 1 - k = j + 1:=⟨L - 1 - (k + 1),by omega⟩
   have hj2:L - 1 - (k + 1) = j:=by omega
   obtain ⟨c,hc⟩:∃ c,c = Ck lw L k:=⟨_,rfl⟩
   rw [← hc] at hlt
   have hC1:Ck lw L (k + 1) = lfC lw (pv lw j) (Mk lw L (k + 1)):=by unfold Ck;rw [if_pos hk,hj2]
   have hC0:c = lfC lw (lvlL lw j) (Mk lw L k):=by rw [hc];unfold Ck;rw [if_pos (by omega),hj];rfl
   have hM:Mk lw L (k + 1) = 2 * pkN ((nxtL lw (lvlL lw j)).take (Mk lw L k)):=by rw [Mk_succ (by omega),hj];rfl
   obtain ⟨p,hp⟩:∃ p,p = pkN ((nxtL lw (lvlL lw j)).take (Mk lw L k)):=⟨_,rfl⟩
   rw [← hp] at hM
   have hcl:c < lw.length:=by have:=Ck_le (lw:=lw) (L:=L) (k + 1);omega
   obtain ⟨x,hx⟩:∃ x,lw[c]? = some x:=⟨lw[c],by simp [hcl]⟩
   -- the leaf c is among the first 2p of the level beneath
   have hmem:(⟨x,(c:Nat),0⟩:It) ∈ (lvlL lw j).take (2 * p):=by
    obtain ⟨a,_⟩:=first_lfs lw (pv lw j) (Mk lw L (k + 1))
    rw [← lvl_pv,hM,← hM,← hC1] at a
    have hg:(leafIts 0 (lw.take (Ck lw L (k + 1))))[c]? = some ⟨x,(0 + c:Nat),0⟩:=leafIts_get (by rw [List.getElem?_take_of_lt hlt];exact hx)
    rw [← a,Nat.zero_add] at hg
    have:=List.mem_of_getElem? hg
    rw [hM] at this
    exact (List.mem_filter.1 this).1
   obtain ⟨pos,hpos⟩:=List.mem_iff_getElem?.1 hmem
   have hpl:pos < 2 * p:=by
    have:=(List.getElem?_eq_some_iff.1 hpos).1
    rw [List.length_take] at this;omega
   rw [List.getElem?_take_of_lt hpl] at hpos
   have hp2:=(first_pks lw (lvlL lw j) (Mk lw L k)).2
   rw [← hp] at hp2
   obtain ⟨q,hq⟩:∃ q,q = pos / 2:=⟨_,rfl⟩
   have hl0:2 * q < (lvlL lw j).length:=by omega
   have hl1:2 * q + 1 < (lvlL lw j).length:=by omega
   obtain ⟨pk,hpk,hpw⟩:=pkgs_get q 0 (lvlL lw j) (x:=(lvlL lw j)[2 * q]) (y:=(lvlL lw j)[2 * q + 1]) (by simp [hl0]) (by simp [hl1])
   have hge:x ≤ pk.w:=by
    rcases (show pos = 2 * q ∨ pos = 2 * q + 1 by omega) with e | e
    · have:(lvlL lw j)[2 * q] = ⟨x,(c:Nat),0⟩:=by
       rw [e,List.getElem?_eq_getElem hl0] at hpos;simpa using hpos
      rw [hpw,this]
      show x ≤ x + _
      omega
    · have:(lvlL lw j)[2 * q + 1] = ⟨x,(c:Nat),0⟩:=by
       rw [e,List.getElem?_eq_getElem hl1] at hpos;simpa using hpos
      rw [hpw,this]
      show x ≤ _ + x
      omega
   have:=mrg_front (leafIts_sorted (k:=0) hs) (pkgs_sorted _ 0 (lvlL lw j) (Nat.le_refl _) (lvlL_sorted hs j)) (fun y hy => by have:=leafIts_leaf hy;omega) (fun y hy => by have:=pkgs_leaf _ _ _ (Nat.le_refl _) hy;omega)
    (Mk lw L k) q ⟨x,(0 + c:Nat),0⟩ pk (by
      have e:(lfs ((mrg (leafIts 0 lw) (pkgs 0 (lvlL lw j))).take (Mk lw L k))).length = c:=by rw [hC0];rfl
      rw [e];exact leafIts_get hx) (by
      have e:pkN ((mrg (leafIts 0 lw) (pkgs 0 (lvlL lw j))).take (Mk lw L k)) = p:=by rw [hp];rfl
      rw [e];omega) hpk
   have:pk.w < x:=this
   omega
 · unfold Ck
   rw [if_neg hk];omega
theorem cnt_get {i:Nat}:∀ k,k ≤ L → (stC lw.length ((lvls lw L).reverse.take k)).2.getD i 0 = SS (fun k => if i < Ck lw L k then 1 else 0) k:=by
 intro k
 induction k with
 | zero =>
   intro _
   show (List.replicate lw.length 0).getD i 0 = 0
   rw [List.getD_eq_getElem?_getD,List.getElem?_replicate];split <;> rfl
 | succ k ih =>
   intro hk
   rw [st_succ (by omega),SS]
   show (bump _ ((lvlL lw (L - 1 - k)).take (Mk lw L k))).getD i 0 = _
   obtain ⟨a,b⟩:=first_lfs lw (pv lw (L - 1 - k)) (Mk lw L k)
   rw [bump_lfs,lvl_pv,a,bump_leaves i _ 0 _ (by rw [List.length_take,stC_length];omega),ih (by omega)]
   congr 1
   have hC:Ck lw L k = lfC lw (pv lw (L - 1 - k)) (Mk lw L k):=by unfold Ck;rw [if_pos (by omega)]
   have hl:(lw.take (lfC lw (pv lw (L - 1 - k)) (Mk lw L k))).length = Ck lw L k:=by rw [List.length_take,hC];omega
   rw [hl]
   by_cases h:i < Ck lw L k
   · rw [if_pos h,if_pos (by omega)]
   · rw [if_neg h,if_neg (by omega)]
theorem cntL_get (i:Nat):(cntL lw L).getD i 0 = SS (fun k => if i < Ck lw L k then 1 else 0) L:=by
 have:=cnt_get (lw:=lw) (L:=L) (i:=i) L (Nat.le_refl _)
 rwa [List.take_of_length_le (by rw [List.length_reverse,lvls_length];exact Nat.le_refl _)] at this
theorem cnt_lt (hs:lw.Pairwise fun a b => a ≤ b) {i k:Nat} (hk:k < L):i < Ck lw L k ↔ k < (cntL lw L).getD i 0:=by
 rw [cntL_get]
 exact SS_count (fun k => i < Ck lw L k) L (fun k h => Nat.lt_of_lt_of_le h (Ck_fall hs k)) k hk
theorem cnt_limit (i:Nat):(cntL lw L).getD i 0 ≤ L:=by
 rw [cntL_get]
 have:SS (fun k => if i < Ck lw L k then 1 else 0) L ≤ SS (fun _ => 1) L:=SS_le fun k _ => by split <;> omega
 rw [SS_const] at this;omega
theorem cnt_fall {i j:Nat} (h:i ≤ j):(cntL lw L).getD j 0 ≤ (cntL lw L).getD i 0:=by
 rw [cntL_get,cntL_get]
 exact SS_le fun k _ => by
  by_cases e:j < Ck lw L k
  · rw [if_pos e,if_pos (by omega)];exact Nat.le_refl _
  · rw [if_neg e];omega
end
section
variable {lw:List Nat} {L:Nat}
theorem Mk_zero (lw:List Nat) (L:Nat):Mk lw L 0 = 2 * lw.length - 2:=rfl
theorem width (h2:lw.length ≤ 2 ^ L) (hL:1 ≤ L):Mk lw L 0 * 2 ^ (L - 1) = SS (fun k => Ck lw L k * 2 ^ (L - 1 - k)) L:=by
 have step:∀ K,K < L → Mk lw L 0 * 2 ^ (L - 1) = SS (fun k => Ck lw L k * 2 ^ (L - 1 - k)) K + Mk lw L K * 2 ^ (L - 1 - K):=by
  intro K
  induction K with
  | zero => intro _;simp [SS]
  | succ K ih =>
    intro hK
    rw [ih (by omega),SS]
    have h3:=Ck_pk h2 (show K < L by omega)
    have h4:=Mk_succ (lw:=lw) (show K < L by omega)
    have e:2 ^ (L - 1 - K) = 2 * 2 ^ (L - 1 - (K + 1)):=by rw [show L - 1 - K = (L - 1 - (K + 1)) + 1 by omega,Nat.pow_succ,Nat.mul_comm]
    rw [h4,← h3,Nat.add_mul,e]
    have:2 * pkN ((lvlL lw (L - 1 - K)).take (Ck lw L K + pkN ((lvlL lw (L - 1 - K)).take (Mk lw L K)))) * 2 ^ (L - 1 - (K + 1)) = pkN ((lvlL lw (L - 1 - K)).take (Mk lw L K)) * (2 * 2 ^ (L - 1 - (K + 1))):=by
     rw [h3,Nat.mul_comm 2,Nat.mul_assoc]
    omega
 have h5:=step (L - 1) (by omega)
 obtain ⟨K,rfl⟩:∃ K,L = K + 1:=⟨L - 1,by omega⟩
 rw [SS]
 simp only [Nat.add_sub_cancel] at h5 ⊢
 have h6:=Ck_pk h2 (show K < K + 1 by omega)
 have h7:pkN ((lvlL lw (K + 1 - 1 - K)).take (Mk lw (K + 1) K)) = 0:=by
  have:=(first_pks lw [] (Mk lw (K + 1) K)).2
  rw [show K + 1 - 1 - K = 0 by omega]
  show pkN ((nxtL lw []).take _) = 0
  simp at this;exact this
 rw [h7,Nat.add_zero] at h6
 rw [h5,h6]
theorem weight (h2:lw.length ≤ 2 ^ L) (hL:1 ≤ L):sumW ((lvlL lw (L - 1)).take (2 * lw.length - 2)) = SS (fun k => (lw.take (Ck lw L k)).sum) L:=by
 have step:∀ K,K < L → sumW ((lvlL lw (L - 1)).take (2 * lw.length - 2)) = SS (fun k => (lw.take (Ck lw L k)).sum) K + sumW ((lvlL lw (L - 1 - K)).take (Mk lw L K)):=by
  intro K
  induction K with
  | zero => intro _;rw [Mk_zero];simp [SS]
  | succ K ih =>
    intro hK
    rw [ih (by omega),SS]
    have e:lvlL lw (L - 1 - K) = nxtL lw (lvlL lw (L - 1 - (K + 1))):=by rw [show L - 1 - K = (L - 1 - (K + 1)) + 1 by omega];rfl
    have h4:=Mk_succ (lw:=lw) (show K < L by omega)
    have h5:=first_sum lw (lvlL lw (L - 1 - (K + 1))) (Mk lw L K)
    have hC:Ck lw L K = lfC lw (lvlL lw (L - 1 - (K + 1))) (Mk lw L K):=by
     unfold Ck;rw [if_pos (by omega),show L - 1 - K = (L - 1 - (K + 1)) + 1 by omega];rfl
    rw [h4,e,h5,hC];omega
 have h5:=step (L - 1) (by omega)
 obtain ⟨K,rfl⟩:∃ K,L = K + 1:=⟨L - 1,by omega⟩
 rw [SS]
 simp only [Nat.add_sub_cancel] at h5 ⊢
 rw [h5]
 congr 1
 have hC:Ck lw (K + 1) K = lfC lw [] (Mk lw (K + 1) K):=by
  unfold Ck;rw [if_pos (by omega),show K + 1 - 1 - K = 0 by omega];rfl
 rw [show K - K = 0 by omega,hC]
 show sumW ((nxtL lw []).take _) = _
 rw [first_sum];simp [sumW]
theorem kraft (hs:lw.Pairwise fun a b => a ≤ b) (h2:lw.length ≤ 2 ^ L) (hL:1 ≤ L) (hn:2 ≤ lw.length):SS (fun i => 2 ^ (L - (cntL lw L).getD i 0)) lw.length = 2 ^ L:=by
 have h:=width h2 hL
 have e1:SS (fun k => Ck lw L k * 2 ^ (L - 1 - k)) L = SS (fun i => SS (fun k => if i < Ck lw L k then 2 ^ (L - 1 - k) else 0) L) lw.length:=by
  rw [SS_swap]
  exact SS_congr fun k _ => by rw [SS_cut (Ck_le k),SS_const]
 have e2:SS (fun i => SS (fun k => if i < Ck lw L k then 2 ^ (L - 1 - k) else 0) L) lw.length = SS (fun i => SS (fun k => if k < (cntL lw L).getD i 0 then 2 ^ (L - 1 - k) else 0) L) lw.length :=
  SS_congr fun i _ => SS_congr fun k hk => by
   by_cases e:i < Ck lw L k
   · rw [if_pos e,if_pos ((cnt_lt hs hk).1 e)]
   · rw [if_neg e,if_neg (fun h => e ((cnt_lt hs hk).2 h))]
 have e3:SS (fun i => SS (fun k => if k < (cntL lw L).getD i 0 then 2 ^ (L - 1 - k) else 0) L) lw.length + SS (fun i => 2 ^ (L - (cntL lw L).getD i 0)) lw.length = lw.length * 2 ^ L:=by
  rw [← SS_add,← SS_const]
  exact SS_congr fun i _ => SS_pow L _ (cnt_limit i)
 rw [e1,e2,Mk_zero] at h
 have e4:(2 * lw.length - 2) * 2 ^ (L - 1) = lw.length * 2 ^ L - 2 ^ L:=by
  obtain ⟨m,hm⟩:∃ m,lw.length = m + 1:=⟨lw.length - 1,by omega⟩
  obtain ⟨K,rfl⟩:∃ K,L = K + 1:=⟨L - 1,by omega⟩
  rw [hm,Nat.add_sub_cancel,Nat.pow_succ,show 2 * (m + 1) - 2 = m * 2 by omega,Nat.mul_assoc,Nat.mul_comm 2 (2 ^ K),Nat.add_mul];omega
 have e5:2 ^ L ≤ lw.length * 2 ^ L:=Nat.le_mul_of_pos_left _ (by omega)
 omega
theorem cnt_pos (hs:lw.Pairwise fun a b => a ≤ b) (h2:lw.length ≤ 2 ^ L) (hL:1 ≤ L) (hn:2 ≤ lw.length) {i:Nat} (hi:i < lw.length):1 ≤ (cntL lw L).getD i 0:=by
 refine Nat.pos_of_ne_zero fun h0 => ?_
 have h:=kraft hs h2 hL hn
 obtain ⟨j,hj,hne⟩:∃ j,j < lw.length ∧ i ≠ j:=by
  by_cases e:i = 0
  · exact ⟨1,by omega,by omega⟩
  · exact ⟨0,by omega,e⟩
 have h3:=SS_two (f:=fun i => 2 ^ (L - (cntL lw L).getD i 0)) hi hj hne
 rw [h0,Nat.sub_zero] at h3
 have:=Nat.two_pow_pos (L - (cntL lw L).getD j 0)
 omega
theorem cost_eq (h2:lw.length ≤ 2 ^ L) (hL:1 ≤ L):SS (fun i => lw.getD i 0 * (cntL lw L).getD i 0) lw.length = sumW ((lvlL lw (L - 1)).take (2 * lw.length - 2)):=by
 rw [weight h2 hL]
 have e1:SS (fun i => lw.getD i 0 * (cntL lw L).getD i 0) lw.length = SS (fun i => SS (fun k => if i < Ck lw L k then lw.getD i 0 else 0) L) lw.length :=
  SS_congr fun i _ => by
   rw [cntL_get,← SS_mul]
   exact SS_congr fun k _ => by split <;> simp
 rw [e1,SS_swap]
 exact SS_congr fun k _ => by rw [SS_cut (Ck_le k),SS_take lw _ (Ck_le k)]
theorem cnt_least (hs:lw.Pairwise fun a b => a ≤ b) (h2:lw.length ≤ 2 ^ L) (hL:1 ≤ L) (hn:2 ≤ lw.length) (l:Nat → Nat) (hl:∀ i,i < lw.length → l i ≤ L) (hroom:SS (fun i => 2 ^ (L - l i)) lw.length ≤ 2 ^ L) :
 SS (fun i => lw.getD i 0 * (cntL lw L).getD i 0) lw.length ≤ SS (fun i => lw.getD i 0 * l i) lw.length:=by
 rw [cost_eq h2 hL]
 -- the coins of level t (from the lowest): of those whose length is beyond L-1-t
 have hc:∀ t,SS (fun i => if L - 1 - t < l i then 1 else 0) lw.length ≤ lw.length:=fun t => by
  have:SS (fun i => if L - 1 - t < l i then 1 else 0) lw.length ≤ SS (fun _ => 1) lw.length:=SS_le fun i _ => by split <;> omega
  rw [SS_const] at this;omega
 have hw:(2 * lw.length - 2) * 2 ^ (L - 1) ≤ upS (fun t => SS (fun i => if L - 1 - t < l i then 1 else 0) lw.length * 2 ^ t) (L - 1):=by
  rw [upS_eq,show L - 1 + 1 = L by omega]
  have e1:SS (fun t => SS (fun i => if L - 1 - t < l i then 1 else 0) lw.length * 2 ^ t) L = SS (fun i => SS (fun t => if L - 1 - t < l i then 2 ^ t else 0) L) lw.length:=by
   rw [SS_swap]
   exact SS_congr fun t _ => by
    rw [Nat.mul_comm,← SS_mul]
    exact SS_congr fun i _ => by split <;> simp
  have e2:∀ i,SS (fun t => if L - 1 - t < l i then 2 ^ t else 0) L = SS (fun k => if k < l i then 2 ^ (L - 1 - k) else 0) L:=fun i => by
   rw [← SS_rev]
   exact SS_congr fun k hk => by rw [show L - 1 - (L - 1 - k) = k by omega]
  have e3:SS (fun i => SS (fun t => if L - 1 - t < l i then 2 ^ t else 0) L) lw.length + SS (fun i => 2 ^ (L - l i)) lw.length = lw.length * 2 ^ L:=by
   rw [← SS_add,← SS_const]
   exact SS_congr fun i hi => by rw [e2];exact SS_pow L _ (hl i hi)
  rw [e1]
  have e4:(2 * lw.length - 2) * 2 ^ (L - 1) = lw.length * 2 ^ L - 2 ^ L:=by
   obtain ⟨m,hm⟩:∃ m,lw.length = m + 1:=⟨lw.length - 1,by omega⟩
   obtain ⟨K,rfl⟩:∃ K,L = K + 1:=⟨L - 1,by omega⟩
   rw [hm,Nat.add_sub_cancel,Nat.pow_succ,show 2 * (m + 1) - 2 = m * 2 by omega,Nat.mul_assoc,Nat.mul_comm 2 (2 ^ K),Nat.add_mul];omega
  omega
 have h:=(coins_least hs (L - 1) (2 * lw.length - 2) _ hc hw).2
 refine Nat.le_trans h ?_
 rw [upS_eq,show L - 1 + 1 = L by omega]
 have rise:∀ i j,i ≤ j → j < lw.length → lw.getD i 0 ≤ lw.getD j 0:=by
  intro i j hij hj
  rw [List.getD_eq_getElem?_getD,List.getD_eq_getElem?_getD,List.getElem?_eq_getElem hj,List.getElem?_eq_getElem (by omega:i < lw.length)]
  rcases Nat.lt_or_ge i j with e | e
  · exact List.pairwise_iff_getElem.1 hs i j (by omega) hj e
  · obtain rfl:i = j:=by omega
    exact Nat.le_refl _
 have part:∀ t,(lw.take (SS (fun i => if L - 1 - t < l i then 1 else 0) lw.length)).sum ≤ SS (fun i => if L - 1 - t < l i then lw.getD i 0 else 0) lw.length:=fun t => by
  rw [← SS_take lw _ (hc t)]
  exact (SS_part (f:=fun i => lw.getD i 0) (fun i => L - 1 - t < l i) lw.length rise).2
 refine Nat.le_trans (SS_le fun t _ => part t) ?_
 rw [← SS_swap]
 refine SS_le fun i hi => ?_
 have e:SS (fun t => if L - 1 - t < l i then lw.getD i 0 else 0) L = SS (fun k => if k < l i then lw.getD i 0 else 0) L:=by
  rw [← SS_rev]
  exact SS_congr fun k hk => by rw [show L - 1 - (L - 1 - k) = k by omega]
 rw [e,SS_cut (hl i hi),SS_const,Nat.mul_comm]
 exact Nat.le_refl _
end
theorem SS_list (l:List Nat) (f:Nat → Nat):SS (fun i => f (l.getD i 0)) l.length = (l.map f).sum:=by
 have h:=SS_take (l.map f) l.length (by simp)
 rw [List.take_of_length_le (by simp)] at h
 rw [← h]
 refine SS_congr fun i hi => ?_
 rw [List.getD_eq_getElem?_getD,List.getD_eq_getElem?_getD,List.getElem?_map,List.getElem?_eq_getElem hi];rfl
theorem sum_perm {a b:List Nat} (h:a.Perm b):a.sum = b.sum:=by
 induction h with
 | nil => rfl
 | cons x _ ih => rw [List.sum_cons,List.sum_cons,ih]
 | swap x y l => rw [List.sum_cons,List.sum_cons,List.sum_cons,List.sum_cons];omega
 | trans _ _ ih1 ih2 => rw [ih1,ih2]
theorem sum_ord (ws:List Int) (f:Nat → Nat):SS f ws.length = SS (fun i => f ((ordL ws).getD i 0)) (ordL ws).length + SS (fun s => if 0 < ws.getD s 0 then 0 else f s) ws.length:=by
 rw [SS_list,sum_perm ((ordL_perm ws).map f)]
 unfold symL
 have key:∀ k,SS f k = ((symK ws k).map f).sum + SS (fun s => if 0 < ws.getD s 0 then 0 else f s) k:=by
  intro k
  induction k with
  | zero => rfl
  | succ k ih =>
    rw [SS,ih,symK_step,List.map_append,List.sum_append,SS]
    by_cases h:0 < ws.getD k 0
    · rw [if_pos h,if_pos h];simp;omega
    · rw [if_neg h,if_neg h];simp;omega
 exact key _
theorem ord_nodup (ws:List Int):(ordL ws).Nodup:=(ordL_sorted ws).imp fun h e => by subst e;exact Lx.irrefl h
theorem ord_get {ws:List Int} {i:Nat} (h:i < (ordL ws).length):(ordL ws).getD i 0 < ws.length ∧ 0 < ws.getD ((ordL ws).getD i 0) 0:=by
 have e:(ordL ws).getD i 0 = (ordL ws)[i]:=by rw [List.getD_eq_getElem?_getD,List.getElem?_eq_getElem h];rfl
 rw [e];exact ordL_lt (List.getElem_mem h)
theorem ord_has {ws:List Int} {s:Nat} (hs:s < ws.length) (h:0 < ws.getD s 0):∃ i,i < (ordL ws).length ∧ (ordL ws).getD i 0 = s:=by
 have hm:s ∈ ordL ws:=(ordL_perm ws).symm.subset (symK_mem hs h)
 obtain ⟨i,hi,e⟩:=List.getElem_of_mem hm
 exact ⟨i,hi,by rw [List.getD_eq_getElem?_getD,List.getElem?_eq_getElem hi];exact e⟩
theorem lwL_sorted (ws:List Int):(lwL ws).Pairwise fun a b => a ≤ b:=by
 unfold lwL
 rw [List.pairwise_map]
 exact (ordL_sorted ws).imp fun h => by unfold Lx at h;omega
theorem fill_out {ps:List (Nat × Nat)} {s:Nat}:∀ {z:List Nat},(∀ p ∈ ps,p.1 ≠ s) → (fill z ps).getD s 0 = z.getD s 0:=by
 induction ps with
 | nil => intro z _;rfl
 | cons p ps ih =>
   intro z h
   show (fill (z.set p.1 p.2) ps).getD s 0 = _
   rw [ih (fun q hq => h q (List.mem_cons_of_mem _ hq)),List.getD_eq_getElem?_getD,List.getElem?_set_ne (h p (by simp)),← List.getD_eq_getElem?_getD]
theorem fill_in {o c:List Nat} (hn:o.Nodup):∀ {z:List Nat},(∀ s ∈ o,s < z.length) → o.length = c.length → ∀ i,i < o.length → (fill z (o.zip c)).getD (o.getD i 0) 0 = c.getD i 0:=by
 induction o generalizing c with
 | nil => intro z _ _ i hi;simp at hi
 | cons s o ih =>
   intro z hz hl i hi
   cases c with
   | nil => simp at hl
   | cons v c =>
     have hn':=List.nodup_cons.1 hn
     show (fill (z.set s v) (o.zip c)).getD _ 0 = _
     cases i with
     | zero =>
       show (fill (z.set s v) (o.zip c)).getD s 0 = v
       rw [fill_out (fun p hp e => by
        have:=(List.of_mem_zip (show (p.1,p.2) ∈ o.zip c from hp)).1
        rw [e] at this;exact hn'.1 this),List.getD_eq_getElem?_getD,List.getElem?_set_self (hz s (by simp))];rfl
     | succ i =>
       exact ih hn'.2 (z:=z.set s v) (fun t ht => by rw [List.length_set];exact hz t (List.mem_cons_of_mem _ ht)) (by simpa using hl) i (by simpa using hi)
structure PackOK (ws:List Int) (L:Nat) (q:Nat → Nat):Prop where
 at_:∀ i,i < (ordL ws).length → (packL ws L).getD ((ordL ws).getD i 0) 0 = q i
 out:∀ s,¬ 0 < ws.getD s 0 → (packL ws L).getD s 0 = 0
 pos:∀ i,i < (ordL ws).length → 1 ≤ q i ∧ q i ≤ L
 fall:∀ i j,i ≤ j → j < (ordL ws).length → q j ≤ q i
 full:2 ≤ (ordL ws).length → SS (fun i => 2 ^ (L - q i)) (ordL ws).length = 2 ^ L
 least:∀ l:Nat → Nat,(∀ i,i < (ordL ws).length → 1 ≤ l i ∧ l i ≤ L) → SS (fun i => 2 ^ (L - l i)) (ordL ws).length ≤ 2 ^ L →
  SS (fun i => (lwL ws).getD i 0 * q i) (ordL ws).length ≤ SS (fun i => (lwL ws).getD i 0 * l i) (ordL ws).length
theorem packOK (ws:List Int) {L:Nat} (hL:1 ≤ L) (h2:(ordL ws).length ≤ 2 ^ L):∃ q,PackOK ws L q:=by
 have hlw:=lwL_length ws
 rcases (show (ordL ws).length = 0 ∨ (ordL ws).length = 1 ∨ 2 ≤ (ordL ws).length by omega) with h | h | h
 · have hp:packL ws L = List.replicate ws.length 0:=by unfold packL;rw [if_pos h]
   refine ⟨fun _ => 1,⟨fun i hi => by omega,fun s _ => ?_,fun i hi => by omega,fun i j _ hj => by omega,fun h3 => by omega,fun l _ _ => by rw [h];exact Nat.le_refl _⟩⟩
   rw [hp,List.getD_eq_getElem?_getD,List.getElem?_replicate];split <;> rfl
 · have hp:packL ws L = (List.replicate ws.length 0).set ((ordL ws).getD 0 0) 1:=by unfold packL;rw [if_neg (by omega),if_pos h]
   have hg:=ord_get (ws:=ws) (i:=0) (by omega)
   refine ⟨fun _ => 1,⟨fun i hi => ?_,fun s hs => ?_,fun i hi => ⟨by omega,hL⟩,fun i j _ hj => by omega,fun h3 => by omega,fun l hl _ => ?_⟩⟩
   · obtain rfl:i = 0:=by omega
     rw [hp,List.getD_eq_getElem?_getD,List.getElem?_set_self (by simpa using hg.1)];rfl
   · rw [hp,List.getD_eq_getElem?_getD,List.getElem?_set_ne (fun e => hs (by rw [← e];exact hg.2)),List.getElem?_replicate];split <;> rfl
   · exact SS_le fun i hi => Nat.mul_le_mul_left _ (hl i hi).1
 · have hp:packL ws L = fill (List.replicate ws.length 0) ((ordL ws).zip (cntL (lwL ws) L)):=by unfold packL;rw [if_neg (by omega),if_neg (by omega)]
   have hs:=lwL_sorted ws
   have h2':(lwL ws).length ≤ 2 ^ L:=by rw [hlw];exact h2
   have h':2 ≤ (lwL ws).length:=by omega
   refine ⟨fun i => (cntL (lwL ws) L).getD i 0,⟨fun i hi => ?_,fun s hs' => ?_,fun i hi => ⟨cnt_pos hs h2' hL h' (by omega),cnt_limit i⟩,fun i j hij _ => cnt_fall hij,fun _ => ?_,fun l hl hr => ?_⟩⟩
   · rw [hp]
     exact fill_in (ord_nodup ws) (fun s hs => by have:=(ordL_lt hs).1;simpa using this) (by rw [cntL_length,hlw]) i hi
   · rw [hp,fill_out (fun p hp e => by
      have:=(List.of_mem_zip (show (p.1,p.2) ∈ (ordL ws).zip (cntL (lwL ws) L) from hp)).1
      rw [e] at this;exact hs' (ordL_lt this).2),List.getD_eq_getElem?_getD,List.getElem?_replicate];split <;> rfl
   · have:=kraft hs h2' hL h'
     rwa [hlw] at this
   · have:=cnt_least hs h2' hL h' l (fun i hi => (hl i (by omega)).2) (by rw [hlw];exact hr)
     rwa [hlw] at this
theorem usedL_SS (L:Nat) (ls:List Int):usedL L ls = SS (fun s => if 0 < ls.getD s 0 then 2 ^ (L - (ls.getD s 0).toNat) else 0) ls.length:=by
 have key:∀ k,k ≤ ls.length → usedL L (ls.take k) = SS (fun s => if 0 < ls.getD s 0 then 2 ^ (L - (ls.getD s 0).toNat) else 0) k:=by
  intro k
  induction k with
  | zero => intro _;simp [usedL,SS]
  | succ k ih =>
    intro hk
    have hx:ls[k]? = some ls[k]:=by simp [show k < ls.length by omega]
    rw [usedL_step hx,ih (by omega),SS,List.getD_eq_getElem?_getD,hx];rfl
 have:=key ls.length (Nat.le_refl _)
 rwa [List.take_of_length_le (Nat.le_refl _)] at this
def packI (ws:List Int) (L:Nat):List Int:=(packL ws L).map Int.ofNat
theorem packI_length (ws:List Int) (L:Nat):(packI ws L).length = ws.length:=by unfold packI;rw [List.length_map,packL_length]
theorem packI_get (ws:List Int) (L s:Nat):(packI ws L).getD s 0 = ((packL ws L).getD s 0:Nat):=by
 unfold packI
 rw [List.getD_eq_getElem?_getD,List.getElem?_map,List.getD_eq_getElem?_getD]
 cases (packL ws L)[s]? <;> rfl
section
variable {ws:List Int} {L:Nat} {q:Nat → Nat}
theorem PackOK.le (h:PackOK ws L q) (s:Nat):(packL ws L).getD s 0 ≤ L:=by
 by_cases hs:s < ws.length
 · by_cases hp:0 < ws.getD s 0
   · obtain ⟨i,hi,e⟩:=ord_has hs hp
     rw [← e,h.at_ i hi];exact (h.pos i hi).2
   · rw [h.out s hp];omega
 · rw [List.getD_eq_getElem?_getD,List.getElem?_eq_none (by rw [packL_length];omega)];exact Nat.zero_le _
theorem PackOK.has (h:PackOK ws L q) {s:Nat} (hs:s < ws.length):0 < ws.getD s 0 ↔ 0 < (packL ws L).getD s 0:=by
 by_cases hp:0 < ws.getD s 0
 · obtain ⟨i,hi,e⟩:=ord_has hs hp
   have:=(h.pos i hi).1
   rw [← h.at_ i hi,e] at this
   exact ⟨fun _ => this,fun _ => hp⟩
 · rw [h.out s hp]
   exact ⟨fun h => absurd h hp,fun h => by omega⟩
theorem PackOK.room (h:PackOK ws L q) (h1:1 ≤ L) (h15:L ≤ 15) (h512:ws.length ≤ 512):roomW (packI ws L) L = 0:=by
 unfold roomW
 rw [if_neg (by rw [packI_length];omega),if_neg]
 intro hb
 obtain ⟨x,hx,hbad⟩:=List.any_eq_true.1 hb
 obtain ⟨s,hs,rfl⟩:=List.getElem_of_mem hx
 have e:(packI ws L)[s] = ((packL ws L).getD s 0:Nat):=by
  rw [← packI_get,List.getD_eq_getElem?_getD,List.getElem?_eq_getElem hs];rfl
 have:=h.le s
 rw [e] at hbad
 unfold badL at hbad
 simp only [Bool.or_eq_true,decide_eq_true_eq] at hbad
 omega
theorem PackOK.used (h:PackOK ws L q):usedL L (packI ws L) = SS (fun i => 2 ^ (L - q i)) (ordL ws).length:=by
 rw [usedL_SS,packI_length,sum_ord ws]
 have e2:SS (fun s => if 0 < ws.getD s 0 then 0 else if 0 < (packI ws L).getD s 0 then 2 ^ (L - ((packI ws L).getD s 0).toNat) else 0) ws.length = 0:=by
  rw [SS_congr (g:=fun _ => 0) (fun s hs => ?_),SS_zero]
  by_cases hp:0 < ws.getD s 0
  · rw [if_pos hp]
  · rw [if_neg hp,packI_get,h.out s hp];rfl
 rw [e2,Nat.add_zero]
 refine SS_congr fun i hi => ?_
 have hp:=(h.pos i hi).1
 rw [packI_get,h.at_ i hi,if_pos (by omega)];rfl
end
theorem packL_one {ws:List Int} {L:Nat} (h:(ordL ws).length = 1):(packL ws L).getD ((ordL ws).getD 0 0) 0 = 1:=by
 have hp:packL ws L = (List.replicate ws.length 0).set ((ordL ws).getD 0 0) 1:=by unfold packL;rw [if_neg (by omega),if_pos h]
 have hg:=ord_get (ws:=ws) (i:=0) (by omega)
 rw [hp,List.getD_eq_getElem?_getD,List.getElem?_set_self (by simpa using hg.1)];rfl
theorem posL_SS (ls:List Int):posL ls = SS (fun s => if 0 < ls.getD s 0 then 1 else 0) ls.length:=by
 have key:∀ k,k ≤ ls.length → posL (ls.take k) = SS (fun s => if 0 < ls.getD s 0 then 1 else 0) k:=by
  intro k
  induction k with
  | zero => intro _;simp [posL,SS]
  | succ k ih =>
    intro hk
    have hx:ls[k]? = some ls[k]:=by simp [show k < ls.length by omega]
    rw [posL_step hx,ih (by omega),SS,List.getD_eq_getElem?_getD,hx];rfl
 have:=key ls.length (Nat.le_refl _)
 rwa [List.take_of_length_le (Nat.le_refl _)] at this
section
variable {ws:List Int} {q:Nat → Nat}
theorem PackOK.many {L:Nat} (h:PackOK ws L q):posL (packI ws L) = (ordL ws).length:=by
 rw [posL_SS,packI_length,sum_ord ws]
 have e2:SS (fun s => if 0 < ws.getD s 0 then 0 else if 0 < (packI ws L).getD s 0 then 1 else 0) ws.length = 0:=by
  rw [SS_congr (g:=fun _ => 0) (fun s hs => ?_),SS_zero]
  by_cases hp:0 < ws.getD s 0
  · rw [if_pos hp]
  · rw [if_neg hp,packI_get,h.out s hp];rfl
 rw [e2,Nat.add_zero,SS_congr (g:=fun _ => 1) (fun i hi => ?_),SS_const,Nat.mul_one]
 have hp:=(h.pos i hi).1
 rw [packI_get,h.at_ i hi,if_pos (by omega)]
theorem PackOK.right (h:PackOK ws 15 q) (h512:ws.length ≤ 512):okL (packI ws 15) = true:=by
 have hr:=h.room (by omega) (by omega) h512
 rw [show ((15:Nat):Int) = 15 from rfl] at hr
 unfold okL
 rw [hr,h.used,h.many]
 simp only [decide_true,Bool.true_and,Bool.or_eq_true,Bool.and_eq_true,decide_eq_true_eq]
 rcases (show (ordL ws).length = 0 ∨ (ordL ws).length = 1 ∨ 2 ≤ (ordL ws).length by omega) with e | e | e
 · exact .inl (.inr e)
 · refine .inr ⟨e, ?_⟩
   have h1:=packL_one (L:=15) e
   have hg:=(ord_get (ws:=ws) (i:=0) (by omega)).1
   have h2:=packI_get ws 15 ((ordL ws).getD 0 0)
   have hg2:(ordL ws).getD 0 0 < (packI ws 15).length:=by rw [packI_length];exact hg
   rw [h1,List.getD_eq_getElem?_getD,List.getElem?_eq_getElem hg2] at h2
   unfold hasL
   have h3:=List.getElem_mem hg2
   rw [show (packI ws 15)[(ordL ws).getD 0 0] = 1 from h2] at h3
   exact List.elem_iff.2 h3
 · exact .inl (.inl (by rw [h.full e]))
theorem right0:rightB ⟨#[]⟩ 0 = true:=by decide
end
theorem bkRd {w:World} {g:Nat} {t:TypeId} {xs:List Value} (h:Bk w g t xs.toArray):Rd w w.heap.size (some ⟨g,0,none⟩) xs:=fun i u hu =>
 ⟨g,0,rfl,h.lt,by rw [Nat.zero_add,h.cell i,List.getElem?_toArray];exact hu⟩
theorem lengths_yes (A:Option Addr) (ws:List Int) (ca:Nat) (lim:Int) (w:World) (hA:Rd w w.heap.size A (ws.map (.int .u64))) (hla:ws.length ≤ 9223372036854775807) (hws:∀ x ∈ ws,0 ≤ x) (hlim:I64 lim) (h0:packW ws lim = 0) :
 Calls Tryz.prog 89 #[.slice A ws.length ca,.int .i64 lim] w fun e w' => (∃ A' c,e = .returned (.tuple #[.slice A' ws.length c,.int .i64 0]) ∧ Rd w' w'.heap.size A' (((packL ws lim.toNat).map Int.ofNat).map (.int .i64)) ∧ ∀ a,A' = some a → w.heap.size ≤ a.block) ∧ Below w.heap.size w w':=by
 refine Calls.mono (lengths_any A ws ca lim w hA hla hws hlim) ?_
 rintro e w' ⟨hb,⟨_,A',c,rfl,hr,hf⟩ | ⟨hne,_⟩⟩
 · refine ⟨⟨A',c,rfl, ?_,hf⟩,hb⟩
   rw [List.map_map];exact hr
 · exact absurd h0 hne
theorem own_put {w:World} {base e n i g c:Nat} {xs:List Value} (h:w.ownsRow base e 1 (.slice (some ⟨g,0,none⟩) n c) n xs) (u:Value):(w.setCell ⟨g,i,none⟩ u).ownsRow base e 1 (.slice (some ⟨g,0,none⟩) n c) n (xs.set i u):=by
 refine ⟨by rw [List.length_set];exact h.1,.inr ?_⟩
 rcases h.2 with ⟨hv,_⟩ | ⟨g',cap,cur,hv,hb,hg,hnc,hcm,hcs,ht⟩
 · simp at hv
 · simp only [Value.slice.injEq,Option.some.injEq,Addr.mk.injEq,true_and,and_true] at hv
   obtain ⟨rfl,rfl⟩:=hv
   refine ⟨g,c,cur.setIfInBounds i u,rfl,hb,Bk.set_ (show Bk w g e cur from hg) i u,hnc,hcm,by simpa using hcs, ?_⟩
   rw [Array.toList_setIfInBounds,List.take_set,ht]
theorem own_at {w:World} {base e n g c:Nat} {xs:List Value} (h:w.ownsRow base e 1 (.slice (some ⟨g,0,none⟩) n c) n xs) {i:Nat} {u:Value} (hi:xs[i]? = some u):w.cell? ⟨g,i,none⟩ = some u ∧ w.frozen? ⟨g,i,none⟩ = false:=by
 obtain ⟨b,o,e1,_,hc⟩:=own_rd h i u hi
 cases e1
 refine ⟨by rw [Nat.zero_add] at hc;exact hc, ?_⟩
 rcases h.2 with ⟨hv,_⟩ | ⟨g',cap,cur,hv,hb,hg,hnc,hcm,hcs,ht⟩
 · simp at hv
 · simp only [Value.slice.injEq,Option.some.injEq,Addr.mk.injEq,true_and,and_true] at hv
   obtain ⟨rfl,rfl⟩:=hv
   exact Bk.free (show Bk w g e cur from hg) i
set_option maxHeartbeats 4000000 in
theorem put_any (A:Option Addr) (l:List QI) (c:Nat) (x:QI) (w:World) (h:RdQ w w.heap.size A l) (hs:SortedQ l) (hlen:l.length ≤ 1000) (hA:(A = none ∧ c = 0) ∨ ∃ b o,A = some ⟨b,o,none⟩) (hc:l.length ≤ c) (h1:∀ u ∈ flatQ l,u.oneCell' = true) (hx1:x.V.oneCell' = true) :
 Calls Tryz.prog 150 #[.slice A l.length c,.agg #[.int .u64 x.w,x.V]] w fun e w' => ∃ A' c',e = .returned (.slice A' (l.length + 1) c') ∧ RdQ w' w'.heap.size A' (insQ x l) ∧ l.length + 1 ≤ c' ∧ (∀ a,A' = some a → w.heap.size ≤ a.block) ∧ Below w.heap.size w w':=by
 obtain ⟨i0,hi,hz0,hz1,hz2⟩:=info_parts info_ritem
 obtain ⟨xw,V,xv⟩:=x
 have H:=hide h
 have HS:=hide hs
 have HO:=hide h1
 clear h hs h1
 go_enter Tryz.func150,Tryz.ntmps150
 go_wp2_with fail
 go_loopw [5] (fun vi wr => ∃ k:Nat,k ≤ l.length ∧ vi = .int .i64 k ∧ Hid (∀ j y,k ≤ j → l[j]? = some y → xw < y.w) ∧ Bk wr w.heap.size 226 #[.int .u64 xw,V] ∧ Below w.heap.size w wr) (fun i _ => (intOf i).toNat)
 case atStart => exact ⟨l.length,Nat.le_refl _,rfl,hide (fun j y hj hy => by have:=(List.getElem?_eq_some_iff.1 hy).1;omega),Bk.new _ _ _,(Below.refl _ _).alloc (Nat.le_refl _) _⟩
 case round =>
  obtain ⟨k,hk,rfl,hgt,hbk,hbe⟩:=hrel
  obtain ⟨x0,x1⟩:=two_cells hbk
  have hz:=hbk.lt
  by_cases h0:k = 0
  · have hk0:decide ((0:Int) < (k:Int)) = false:=decide_eq_false (by omega)
    have hk0n:decide (0 < k) = false:=decide_eq_false (by omega)
    have hkw:IntKind.i64.wrap (k:Int) = (k:Int):=IntWalk.i64_in _ ⟨by omega,by omega⟩
    have hfin:=insQ_at (x:=⟨xw,V,xv⟩) HS.out hk (fun y _ h => by omega) hgt.out
    have HFin:=hide hfin
    have hkc:k ≤ c:=by omega
    clear hfin h0
    rcases hA with ⟨rfl,rfl⟩ | ⟨b,o,rfl⟩
    · obtain rfl:l = []:=List.eq_nil_of_length_eq_zero (by omega)
      obtain rfl:k = 0:=by simpa using hk
      have own0:∀ W g,Bk W g 226 #[] → w.heap.size ≤ g → W.ownsRow w.heap.size 226 2 (.slice (some ⟨g,0,none⟩) 0 0) 0 []:=fun W g hb hg => ⟨rfl,.inr ⟨g,0,#[],rfl,hg,hb,Nat.le_refl _,Nat.zero_le _,rfl,rfl⟩⟩
      have HOwn:=hide own0
      have HOx:=hide (show ∀ u ∈ [Value.int .u64 (xw:Nat),V],u.oneCell' = true from fun u hu => by
       rcases List.mem_cons.1 hu with rfl | hu
       · rfl
       · rw [List.mem_singleton.1 hu];exact hx1)
      clear own0 hx1
      go_wp2_with fail
      go_region
      go_wp2_with fail
      go_region_law (
       first
       | (refine step_append_rd rfl (.tmp 23) (.tmp 26) 224 rfl w.heap.size 226 i0 _ 2 32 Tryz.underlying224 hi hz0 hz1 hz2 rfl (by decide) _ 0 [] rfl (HOwn.out _ _ (by repeat (first | with_reducible exact hbk | (with_reducible refine Bk.newAt ?_;first | with_reducible rfl | (simp;all_goals fail)) | with_reducible refine Bk.drew ?_ | with_reducible refine Bk.alloc ?_ _)) (by omega)) none 0 0 (flatQ (([]:List QI).take 0)) rfl (fun _ => rfl) rfl Rd.nil_ (fun u hu => by simp [flatQ] at hu) (by unfold maxLen;omega) (by omega) (by first | omega | (simp;omega)) ?_
          intro v1 w1 hown1 hgr1
          replace hgr1:World.grownBy _ w1 (some _):=hgr1
          rw [Nat.zero_add,List.nil_append] at hown1
          have hbe1:Below w.heap.size w w1:=Below.grown (by repeat (first | with_reducible exact hbe | with_reducible refine Below.drew ?_ | with_reducible refine Below.alloc ?_ (by first | omega | (simp;omega)) _)) hgr1 (by first | omega | (simp;omega)) (fun g hg => by have:=Option.some.inj hg;first | omega | (simp at this;all_goals fail) | (simp at this;omega))
          have hz1':=hbe1.size
          have hbk1:Bk w1 w.heap.size 226 #[.int .u64 xw,V]:=Bk.grown (by repeat (first | with_reducible exact hbk | with_reducible refine Bk.drew ?_ | with_reducible refine Bk.alloc ?_ _)) hgr1 (by intro he;have:=Option.some.inj he;first | omega | (simp at this;all_goals fail) | (simp at this;omega))
          obtain ⟨y0,y1⟩:=two_cells hbk1
          first
          | (have hx1:Bk w1 wr.heap.size 226 #[.int .u64 xw,V]:=Bk.grown (Bk.drew (Bk.drew (Bk.alloc (Bk.new wr 226 #[.int .u64 xw,V]) (.cells #[] 226)))) hgr1 (fun he => Nat.succ_ne_self _ (Option.some.inj he).symm))
          | (have hx1:Bk w1 (wr.heap.size + 1) 226 #[.int .u64 xw,V]:=Bk.grown (Bk.drew (Bk.drew (Bk.new1 wr (.cells #[] 226) 226 #[.int .u64 xw,V]))) hgr1 (fun he => Nat.succ_ne_self _ (Option.some.inj he)))
          | (have hx1:=hbk1)
          clear hgr1)
       | (refine step_append_rd rfl (.tmp 30) (.tmp 33) 224 rfl w.heap.size 226 i0 _ 2 32 Tryz.underlying224 hi hz0 hz1 hz2 rfl (by decide) v2 (0 + 1) (flatQ (([]:List QI).take 0) ++ [.int .u64 xw,V]) rfl (by repeat (first | with_reducible exact hown2 | with_reducible refine World.ownsRow.drew ?_ | with_reducible refine World.ownsRow.alloc ?_ _)) none (([]:List QI).length - 0) (0 - 0) (flatQ (([]:List QI).drop 0)) rfl (fun _ => rfl) rfl Rd.nil_ (fun u hu => by simp [flatQ] at hu) (by unfold maxLen;omega) (by omega) (by first | omega | (simp;omega)) ?_
          intro v3 w3 hown3 hgr3
          have hbe3:Below w.heap.size w w3:=Below.grown (by repeat (first | with_reducible exact hbe2 | with_reducible refine Below.drew ?_ | with_reducible refine Below.alloc ?_ (by first | omega | (simp;omega)) _)) hgr3 (by first | omega | (simp;omega)) (fun g hg => (hown2.lt g hg).1)
          have hlen3:0 + 1 + (([]:List QI).length - 0) = ([]:List QI).length + 1:=by omega
          rw [hlen3] at hown3
          obtain ⟨A3,c3,rfl⟩:=own_form3 hown3
          clear hgr3)
       | (refine step_append_rd rfl (.tmp 27) (.tmp 29) 224 rfl w.heap.size 226 i0 _ 2 32 Tryz.underlying224 hi hz0 hz1 hz2 rfl (by decide) v1 0 (flatQ (([]:List QI).take 0)) rfl (by repeat (first | with_reducible exact hown1 | with_reducible refine World.ownsRow.drew ?_ | with_reducible refine World.ownsRow.alloc ?_ _)) (some ⟨_,0,none⟩) 1 1 [.int .u64 xw,V] rfl (fun h => by cases h) rfl (bkRdQ (by repeat (first | with_reducible exact hx1 | (with_reducible refine Bk.newAt ?_;first | with_reducible rfl | (simp;all_goals fail)) | with_reducible refine Bk.drew ?_ | with_reducible refine Bk.alloc ?_ _))) HOx.out (by unfold maxLen;omega) (by omega) (by first | omega | (simp;omega)) ?_
          intro v2 w2 hown2 hgr2
          have hbe2:Below w.heap.size w w2:=Below.grown (by repeat (first | with_reducible exact hbe1 | with_reducible refine Below.drew ?_ | with_reducible refine Below.alloc ?_ (by first | omega | (simp;omega)) _)) hgr2 (by first | omega | (simp;omega)) (fun g hg => (hown1.lt g hg).1)
          have hz2':=hbe2.size
          clear hgr2))
      all_goals go_wp2_with fail
      all_goals go_ret
      all_goals exact ⟨A3,c3,rfl,by show Rd _ _ _ _;rw [← HFin.out];have:=(own_rdN hown3).1;simpa [flatQ,qV] using this,(own_rdN hown3).2,(fun a ha => (hown3.lt a.block (by rw [ha];rfl)).1),hbe3⟩
    · have own0:∀ W g,Bk W g 226 #[] → w.heap.size ≤ g → W.ownsRow w.heap.size 226 2 (.slice (some ⟨g,0,none⟩) 0 0) 0 []:=fun W g hb hg => ⟨rfl,.inr ⟨g,0,#[],rfl,hg,hb,Nat.le_refl _,Nat.zero_le _,rfl,rfl⟩⟩
      have HOwn:=hide own0
      have rd1:∀ W,Below w.heap.size w W → Rd W W.heap.size (some ⟨b,o,none⟩) (flatQ (l.take k)):=fun W hW => ((H.out.take k).below hW).more hW.size
      have HRd1:=hide rd1
      have rd3:∀ W,Below w.heap.size w W → Rd W W.heap.size (if c = k then some ⟨b,o,none⟩ else some ⟨b,o + k * 2,none⟩) (flatQ (l.drop k)):=fun W hW => by
       split
       · rw [List.drop_eq_nil_of_le (by omega)];exact Rd.nil_
       · exact ((H.out.drop hk).below hW).more hW.size
      have hn1:(some ⟨b,o,none⟩) = (none:Option Addr) → c = 0:=fun h => by cases h
      have hn3:(if c = k then some ⟨b,o,none⟩ else some ⟨b,o + k * 2,none⟩) = (none:Option Addr) → c - k = 0:=fun h => by split at h <;> cases h
      have HRd3:=hide rd3
      have HN1:=hide hn1
      have HN3:=hide hn3
      have HL1:=hide (show (flatQ (l.take k)).length = k * 2 by rw [flatQ_length,List.length_take];congr 1;omega)
      have HL3:=hide (show (flatQ (l.drop k)).length = (l.length - k) * 2 by rw [flatQ_length,List.length_drop])
      have HO1:=hide (show ∀ u ∈ flatQ (l.take k),u.oneCell' = true from fun u hu => HO.out u (by rw [← List.take_append_drop k l,flatQ_append];exact List.mem_append_left _ hu))
      have HO3:=hide (show ∀ u ∈ flatQ (l.drop k),u.oneCell' = true from fun u hu => HO.out u (by rw [← List.take_append_drop k l,flatQ_append];exact List.mem_append_right _ hu))
      have HOx:=hide (show ∀ u ∈ [Value.int .u64 (xw:Nat),V],u.oneCell' = true from fun u hu => by
       rcases List.mem_cons.1 hu with rfl | hu
       · rfl
       · rw [List.mem_singleton.1 hu];exact hx1)
      clear own0 rd1 rd3 hn1 hn3 hx1
      go_wp2_with fail
      go_region
      go_wp2_with fail
      go_region_law (
       first
       | (refine step_append_rd rfl (.tmp 23) (.tmp 26) 224 rfl w.heap.size 226 i0 _ 2 32 Tryz.underlying224 hi hz0 hz1 hz2 rfl (by decide) _ 0 [] rfl (HOwn.out _ _ (by repeat (first | with_reducible exact hbk | (with_reducible refine Bk.newAt ?_;first | with_reducible rfl | (simp;all_goals fail)) | with_reducible refine Bk.drew ?_ | with_reducible refine Bk.alloc ?_ _)) (by omega)) (some ⟨b,o,none⟩) k c (flatQ (l.take k)) rfl HN1.out HL1.out (HRd1.out _ (by repeat (first | with_reducible exact hbe | with_reducible refine Below.drew ?_ | with_reducible refine Below.alloc ?_ (by first | omega | (simp;omega)) _))) HO1.out (by unfold maxLen;omega) (by omega) (by first | omega | (simp;omega)) ?_
          intro v1 w1 hown1 hgr1
          replace hgr1:World.grownBy _ w1 (some _):=hgr1
          rw [Nat.zero_add,List.nil_append] at hown1
          have hbe1:Below w.heap.size w w1:=Below.grown (by repeat (first | with_reducible exact hbe | with_reducible refine Below.drew ?_ | with_reducible refine Below.alloc ?_ (by first | omega | (simp;omega)) _)) hgr1 (by first | omega | (simp;omega)) (fun g hg => by have:=Option.some.inj hg;first | omega | (simp at this;all_goals fail) | (simp at this;omega))
          have hz1':=hbe1.size
          have hbk1:Bk w1 w.heap.size 226 #[.int .u64 xw,V]:=Bk.grown (by repeat (first | with_reducible exact hbk | with_reducible refine Bk.drew ?_ | with_reducible refine Bk.alloc ?_ _)) hgr1 (by intro he;have:=Option.some.inj he;first | omega | (simp at this;all_goals fail) | (simp at this;omega))
          obtain ⟨y0,y1⟩:=two_cells hbk1
          first
          | (have hx1:Bk w1 wr.heap.size 226 #[.int .u64 xw,V]:=Bk.grown (Bk.drew (Bk.drew (Bk.alloc (Bk.new wr 226 #[.int .u64 xw,V]) (.cells #[] 226)))) hgr1 (fun he => Nat.succ_ne_self _ (Option.some.inj he).symm))
          | (have hx1:Bk w1 (wr.heap.size + 1) 226 #[.int .u64 xw,V]:=Bk.grown (Bk.drew (Bk.drew (Bk.new1 wr (.cells #[] 226) 226 #[.int .u64 xw,V]))) hgr1 (fun he => Nat.succ_ne_self _ (Option.some.inj he)))
          | (have hx1:=hbk1)
          clear hgr1)
       | (refine step_append_rd rfl (.tmp 30) (.tmp 33) 224 rfl w.heap.size 226 i0 _ 2 32 Tryz.underlying224 hi hz0 hz1 hz2 rfl (by decide) v2 (k + 1) (flatQ (l.take k) ++ [.int .u64 xw,V]) rfl (by repeat (first | with_reducible exact hown2 | with_reducible refine World.ownsRow.drew ?_ | with_reducible refine World.ownsRow.alloc ?_ _)) (if c = k then some ⟨b,o,none⟩ else some ⟨b,o + k * 2,none⟩) (l.length - k) (c - k) (flatQ (l.drop k)) rfl HN3.out HL3.out (HRd3.out _ (by repeat (first | with_reducible exact hbe2 | with_reducible refine Below.drew ?_ | with_reducible refine Below.alloc ?_ (by first | omega | (simp;omega)) _))) HO3.out (by unfold maxLen;omega) (by omega) (by first | omega | (simp;omega)) ?_
          intro v3 w3 hown3 hgr3
          have hbe3:Below w.heap.size w w3:=Below.grown (by repeat (first | with_reducible exact hbe2 | with_reducible refine Below.drew ?_ | with_reducible refine Below.alloc ?_ (by first | omega | (simp;omega)) _)) hgr3 (by first | omega | (simp;omega)) (fun g hg => (hown2.lt g hg).1)
          have hlen3:k + 1 + (l.length - k) = l.length + 1:=by omega
          rw [hlen3] at hown3
          obtain ⟨A3,c3,rfl⟩:=own_form3 hown3
          clear hgr3)
       | (refine step_append_rd rfl (.tmp 27) (.tmp 29) 224 rfl w.heap.size 226 i0 _ 2 32 Tryz.underlying224 hi hz0 hz1 hz2 rfl (by decide) v1 k (flatQ (l.take k)) rfl (by repeat (first | with_reducible exact hown1 | with_reducible refine World.ownsRow.drew ?_ | with_reducible refine World.ownsRow.alloc ?_ _)) (some ⟨_,0,none⟩) 1 1 [.int .u64 xw,V] rfl (fun h => by cases h) rfl (bkRdQ (by repeat (first | with_reducible exact hx1 | (with_reducible refine Bk.newAt ?_;first | with_reducible rfl | (simp;all_goals fail)) | with_reducible refine Bk.drew ?_ | with_reducible refine Bk.alloc ?_ _))) HOx.out (by unfold maxLen;omega) (by omega) (by first | omega | (simp;omega)) ?_
          intro v2 w2 hown2 hgr2
          have hbe2:Below w.heap.size w w2:=Below.grown (by repeat (first | with_reducible exact hbe1 | with_reducible refine Below.drew ?_ | with_reducible refine Below.alloc ?_ (by first | omega | (simp;omega)) _)) hgr2 (by first | omega | (simp;omega)) (fun g hg => (hown1.lt g hg).1)
          have hz2':=hbe2.size
          clear hgr2))
      all_goals go_wp2_with fail
      all_goals go_ret
      all_goals exact ⟨A3,c3,rfl,by show Rd _ _ _ _;rw [← HFin.out];have:=(own_rdN hown3).1;simpa [flatQ,qV] using this,(own_rdN hown3).2,(fun a ha => (hown3.lt a.block (by rw [ha];rfl)).1),hbe3⟩
  · obtain ⟨m,hm⟩:∃ m,k = m + 1:=⟨k - 1,by omega⟩
    have hmI:(k:Int) - 1 = (m:Int):=by omega
    have hml:m < l.length:=by omega
    have hk0n:decide (0 < k) = true:=decide_eq_true (by omega)
    have hk00:0 < k:=by omega
    have hmw:IntKind.i64.wrap (m:Int) = (m:Int):=IntWalk.i64_in _ ⟨by omega,by omega⟩
    have hk0:decide ((0:Int) < (k:Int)) = true:=decide_eq_true (by omega)
    obtain ⟨y,hy⟩:∃ y,l[m]? = some y:=⟨l[m],by simp [hml]⟩
    obtain ⟨b,o,hAe,hb,c0,c1⟩:=H.out.at_ hy
    subst hAe
    have d0:=(hbe.cell (p:=⟨b,o + m * 2,none⟩) hb).trans c0
    have HY:=hide hy
    have HM:=hide hm
    clear c0 c1 hy hm
    by_cases g:xw < y.w
    · have dg:decide ((xw:Int) < (y.w:Int)) = true:=decide_eq_true (by omega)
      go_wp2_with fail
      go_region
      go_wp2_with fail
      go_roundw
      case rel => exact ⟨m,by omega,by go_num,hide (fun j z hj hz => by
       rcases Nat.eq_or_lt_of_le hj with rfl | hj
       · rw [HY.out] at hz;cases hz;exact g
       · exact hgt.out j z (by have:=HM.out;omega) hz),hbk.drew,hbe.drew⟩
      case measure => simp [intOf];omega
    · have dg:decide ((xw:Int) < (y.w:Int)) = false:=decide_eq_false (by omega)
      have hkw:IntKind.i64.wrap (k:Int) = (k:Int):=IntWalk.i64_in _ ⟨by omega,by omega⟩
      have hfin:=insQ_at (x:=⟨xw,V,xv⟩) HS.out hk (fun z hz _ => by
       have e:=HY.out
       have:k - 1 = m:=by have:=HM.out;omega
       rw [this,e] at hz
       cases hz
       show y.w ≤ xw
       omega) hgt.out
      have HFin:=hide hfin
      have hkc:k ≤ c:=by omega
      clear hfin
      have own0:∀ W g,Bk W g 226 #[] → w.heap.size ≤ g → W.ownsRow w.heap.size 226 2 (.slice (some ⟨g,0,none⟩) 0 0) 0 []:=fun W g hb hg => ⟨rfl,.inr ⟨g,0,#[],rfl,hg,hb,Nat.le_refl _,Nat.zero_le _,rfl,rfl⟩⟩
      have HOwn:=hide own0
      have rd1:∀ W,Below w.heap.size w W → Rd W W.heap.size (some ⟨b,o,none⟩) (flatQ (l.take k)):=fun W hW => ((H.out.take k).below hW).more hW.size
      have HRd1:=hide rd1
      have rd3:∀ W,Below w.heap.size w W → Rd W W.heap.size (if c = k then some ⟨b,o,none⟩ else some ⟨b,o + k * 2,none⟩) (flatQ (l.drop k)):=fun W hW => by
       split
       · rw [List.drop_eq_nil_of_le (by omega)];exact Rd.nil_
       · exact ((H.out.drop hk).below hW).more hW.size
      have hn1:(some ⟨b,o,none⟩) = (none:Option Addr) → c = 0:=fun h => by cases h
      have hn3:(if c = k then some ⟨b,o,none⟩ else some ⟨b,o + k * 2,none⟩) = (none:Option Addr) → c - k = 0:=fun h => by split at h <;> cases h
      have HRd3:=hide rd3
      have HN1:=hide hn1
      have HN3:=hide hn3
      have HL1:=hide (show (flatQ (l.take k)).length = k * 2 by rw [flatQ_length,List.length_take];congr 1;omega)
      have HL3:=hide (show (flatQ (l.drop k)).length = (l.length - k) * 2 by rw [flatQ_length,List.length_drop])
      have HO1:=hide (show ∀ u ∈ flatQ (l.take k),u.oneCell' = true from fun u hu => HO.out u (by rw [← List.take_append_drop k l,flatQ_append];exact List.mem_append_left _ hu))
      have HO3:=hide (show ∀ u ∈ flatQ (l.drop k),u.oneCell' = true from fun u hu => HO.out u (by rw [← List.take_append_drop k l,flatQ_append];exact List.mem_append_right _ hu))
      have HOx:=hide (show ∀ u ∈ [Value.int .u64 (xw:Nat),V],u.oneCell' = true from fun u hu => by
       rcases List.mem_cons.1 hu with rfl | hu
       · rfl
       · rw [List.mem_singleton.1 hu];exact hx1)
      clear own0 rd1 rd3 hn1 hn3 hx1
      go_wp2_with fail
      go_region
      go_wp2_with fail
      go_region_law (
       first
       | (refine step_append_rd rfl (.tmp 23) (.tmp 26) 224 rfl w.heap.size 226 i0 _ 2 32 Tryz.underlying224 hi hz0 hz1 hz2 rfl (by decide) _ 0 [] rfl (HOwn.out _ _ (by repeat (first | with_reducible exact hbk | (with_reducible refine Bk.newAt ?_;first | with_reducible rfl | (simp;all_goals fail)) | with_reducible refine Bk.drew ?_ | with_reducible refine Bk.alloc ?_ _)) (by omega)) (some ⟨b,o,none⟩) k c (flatQ (l.take k)) rfl HN1.out HL1.out (HRd1.out _ (by repeat (first | with_reducible exact hbe | with_reducible refine Below.drew ?_ | with_reducible refine Below.alloc ?_ (by first | omega | (simp;omega)) _))) HO1.out (by unfold maxLen;omega) (by omega) (by first | omega | (simp;omega)) ?_
          intro v1 w1 hown1 hgr1
          replace hgr1:World.grownBy _ w1 (some _):=hgr1
          rw [Nat.zero_add,List.nil_append] at hown1
          have hbe1:Below w.heap.size w w1:=Below.grown (by repeat (first | with_reducible exact hbe | with_reducible refine Below.drew ?_ | with_reducible refine Below.alloc ?_ (by first | omega | (simp;omega)) _)) hgr1 (by first | omega | (simp;omega)) (fun g hg => by have:=Option.some.inj hg;first | omega | (simp at this;all_goals fail) | (simp at this;omega))
          have hz1':=hbe1.size
          have hbk1:Bk w1 w.heap.size 226 #[.int .u64 xw,V]:=Bk.grown (by repeat (first | with_reducible exact hbk | with_reducible refine Bk.drew ?_ | with_reducible refine Bk.alloc ?_ _)) hgr1 (by intro he;have:=Option.some.inj he;first | omega | (simp at this;all_goals fail) | (simp at this;omega))
          obtain ⟨y0,y1⟩:=two_cells hbk1
          first
          | (have hx1:Bk w1 wr.heap.size 226 #[.int .u64 xw,V]:=Bk.grown (Bk.drew (Bk.drew (Bk.alloc (Bk.new wr 226 #[.int .u64 xw,V]) (.cells #[] 226)))) hgr1 (fun he => Nat.succ_ne_self _ (Option.some.inj he).symm))
          | (have hx1:Bk w1 (wr.heap.size + 1) 226 #[.int .u64 xw,V]:=Bk.grown (Bk.drew (Bk.drew (Bk.new1 wr (.cells #[] 226) 226 #[.int .u64 xw,V]))) hgr1 (fun he => Nat.succ_ne_self _ (Option.some.inj he)))
          | (have hx1:=hbk1)
          clear hgr1)
       | (refine step_append_rd rfl (.tmp 30) (.tmp 33) 224 rfl w.heap.size 226 i0 _ 2 32 Tryz.underlying224 hi hz0 hz1 hz2 rfl (by decide) v2 (k + 1) (flatQ (l.take k) ++ [.int .u64 xw,V]) rfl (by repeat (first | with_reducible exact hown2 | with_reducible refine World.ownsRow.drew ?_ | with_reducible refine World.ownsRow.alloc ?_ _)) (if c = k then some ⟨b,o,none⟩ else some ⟨b,o + k * 2,none⟩) (l.length - k) (c - k) (flatQ (l.drop k)) rfl HN3.out HL3.out (HRd3.out _ (by repeat (first | with_reducible exact hbe2 | with_reducible refine Below.drew ?_ | with_reducible refine Below.alloc ?_ (by first | omega | (simp;omega)) _))) HO3.out (by unfold maxLen;omega) (by omega) (by first | omega | (simp;omega)) ?_
          intro v3 w3 hown3 hgr3
          have hbe3:Below w.heap.size w w3:=Below.grown (by repeat (first | with_reducible exact hbe2 | with_reducible refine Below.drew ?_ | with_reducible refine Below.alloc ?_ (by first | omega | (simp;omega)) _)) hgr3 (by first | omega | (simp;omega)) (fun g hg => (hown2.lt g hg).1)
          have hlen3:k + 1 + (l.length - k) = l.length + 1:=by omega
          rw [hlen3] at hown3
          obtain ⟨A3,c3,rfl⟩:=own_form3 hown3
          clear hgr3)
       | (refine step_append_rd rfl (.tmp 27) (.tmp 29) 224 rfl w.heap.size 226 i0 _ 2 32 Tryz.underlying224 hi hz0 hz1 hz2 rfl (by decide) v1 k (flatQ (l.take k)) rfl (by repeat (first | with_reducible exact hown1 | with_reducible refine World.ownsRow.drew ?_ | with_reducible refine World.ownsRow.alloc ?_ _)) (some ⟨_,0,none⟩) 1 1 [.int .u64 xw,V] rfl (fun h => by cases h) rfl (bkRdQ (by repeat (first | with_reducible exact hx1 | (with_reducible refine Bk.newAt ?_;first | with_reducible rfl | (simp;all_goals fail)) | with_reducible refine Bk.drew ?_ | with_reducible refine Bk.alloc ?_ _))) HOx.out (by unfold maxLen;omega) (by omega) (by first | omega | (simp;omega)) ?_
          intro v2 w2 hown2 hgr2
          have hbe2:Below w.heap.size w w2:=Below.grown (by repeat (first | with_reducible exact hbe1 | with_reducible refine Below.drew ?_ | with_reducible refine Below.alloc ?_ (by first | omega | (simp;omega)) _)) hgr2 (by first | omega | (simp;omega)) (fun g hg => (hown1.lt g hg).1)
          have hz2':=hbe2.size
          clear hgr2))
      all_goals go_wp2_with fail
      all_goals go_ret
      all_goals exact ⟨A3,c3,rfl,by show Rd _ _ _ _;rw [← HFin.out];have:=(own_rdN hown3).1;simpa [flatQ,qV] using this,(own_rdN hown3).2,(fun a ha => (hown3.lt a.block (by rw [ha];rfl)).1),hbe3⟩
def sums2 (va vb:List Nat):List Nat:=List.zipWith (fun x y => x + y) va vb
def sumsK (va vb:List Nat) (k n:Nat):List Nat:=(sums2 va vb).take k ++ List.replicate (n - k) 0
theorem sumsK_zero (va vb:List Nat) (n:Nat):sumsK va vb 0 n = List.replicate n 0:=by simp [sumsK]
theorem sumsK_all {va vb:List Nat} {n:Nat} (h:(sums2 va vb).length = n):sumsK va vb n n = sums2 va vb:=by simp [sumsK,← h]
theorem sumsK_length {va vb:List Nat} {k n:Nat} (h:(sums2 va vb).length = n) (hk:k ≤ n):(sumsK va vb k n).length = n:=by simp [sumsK,h];omega
theorem sumsK_step {va vb:List Nat} {k n x y:Nat} (h:(sums2 va vb).length = n) (hk:k < n) (hx:va[k]? = some x) (hy:vb[k]? = some y):(sumsK va vb k n).set k (x + y) = sumsK va vb (k + 1) n:=by
 have hs:(sums2 va vb)[k]? = some (x + y):=by unfold sums2;rw [List.getElem?_zipWith,hx,hy]
 have hl:((sums2 va vb).take k).length = k:=by rw [List.length_take];omega
 unfold sumsK
 rw [List.set_append,if_neg (by omega),hl,Nat.sub_self,show n - k = (n - (k + 1)) + 1 by omega,List.replicate_succ,List.set_cons_zero,List.take_add_one,hs]
 simp
theorem five_new (w:World) (t0 t1 t2 t3 t4:TypeId) (c0 c1 c2 c3 c4:Array Value) :
 Bk (((((w.alloc (.cells c0 t0)).alloc (.cells c1 t1)).alloc (.cells c2 t2)).alloc (.cells c3 t3)).alloc (.cells c4 t4)).drew w.heap.size t0 c0 ∧
 Bk (((((w.alloc (.cells c0 t0)).alloc (.cells c1 t1)).alloc (.cells c2 t2)).alloc (.cells c3 t3)).alloc (.cells c4 t4)).drew (w.heap.size + 1) t1 c1 ∧
 Bk (((((w.alloc (.cells c0 t0)).alloc (.cells c1 t1)).alloc (.cells c2 t2)).alloc (.cells c3 t3)).alloc (.cells c4 t4)).drew (w.heap.size + 1 + 1) t2 c2 ∧
 Bk (((((w.alloc (.cells c0 t0)).alloc (.cells c1 t1)).alloc (.cells c2 t2)).alloc (.cells c3 t3)).alloc (.cells c4 t4)).drew (w.heap.size + 1 + 1 + 1) t3 c3 ∧
 Bk (((((w.alloc (.cells c0 t0)).alloc (.cells c1 t1)).alloc (.cells c2 t2)).alloc (.cells c3 t3)).alloc (.cells c4 t4)).drew (w.heap.size + 1 + 1 + 1 + 1) t4 c4 ∧
 Below w.heap.size w (((((w.alloc (.cells c0 t0)).alloc (.cells c1 t1)).alloc (.cells c2 t2)).alloc (.cells c3 t3)).alloc (.cells c4 t4)).drew:=by
 have h0:=Bk.new w t0 c0
 have h1:=Bk.newAt (w:=w.alloc (.cells c0 t0)) (g:=w.heap.size + 1) (t:=t1) (cs:=c1) (by simp)
 have h2:=Bk.newAt (w:=(w.alloc (.cells c0 t0)).alloc (.cells c1 t1)) (g:=w.heap.size + 1 + 1) (t:=t2) (cs:=c2) (by simp)
 have h3:=Bk.newAt (w:=((w.alloc (.cells c0 t0)).alloc (.cells c1 t1)).alloc (.cells c2 t2)) (g:=w.heap.size + 1 + 1 + 1) (t:=t3) (cs:=c3) (by simp)
 have h4:=Bk.newAt (w:=(((w.alloc (.cells c0 t0)).alloc (.cells c1 t1)).alloc (.cells c2 t2)).alloc (.cells c3 t3)) (g:=w.heap.size + 1 + 1 + 1 + 1) (t:=t4) (cs:=c4) (by simp)
 refine ⟨((((h0.alloc _).alloc _).alloc _).alloc _).drew,(((h1.alloc _).alloc _).alloc _).drew,((h2.alloc _).alloc _).drew,(h3.alloc _).drew,h4.drew, ?_⟩
 exact ((((((Below.refl _ w).alloc (Nat.le_refl _) _).alloc (by simp) _).alloc (by simp;omega) _).alloc (by simp;omega) _).alloc (by simp;omega) _).drew
set_option maxHeartbeats 4000000 in
theorem both_any (wa wb n:Nat) (va vb:List Nat) (Aa Ab:Option Addr) (ca cb:Nat) (w:World) (hla:va.length = n) (hlb:vb.length = n) (ra:Rd w w.heap.size Aa (va.map fun (x:Nat) => Value.int .i64 x)) (rb:Rd w w.heap.size Ab (vb.map fun (x:Nat) => Value.int .i64 x)) (hn:n ≤ 1000) (hw:wa + wb ≤ 18446744073709551615)
 (hva:∀ x ∈ va,x ≤ 1048576) (hvb:∀ x ∈ vb,x ≤ 1048576) :
 Calls Tryz.prog 151 #[.agg #[.int .u64 wa,.slice Aa n ca],.agg #[.int .u64 wb,.slice Ab n cb]] w fun e w' => ∃ g,e = .returned (.agg #[.int .u64 (wa + wb:Nat),.slice (some ⟨g,0,none⟩) n n]) ∧ Bk w' g 3 ((sums2 va vb).map fun (x:Nat) => Value.int .i64 x).toArray ∧ w.heap.size ≤ g ∧ Below w.heap.size w w':=by
 have hmk:=run_make_row' (P:=Tryz.prog) 74 3 (.int .i64 0) 8 Tryz.underlying74 info_int rfl .i64 .i64 n (by omega) (by omega)
 have hs:(sums2 va vb).length = n:=by unfold sums2;rw [List.length_zipWith];omega
 have HS:=hide hs
 have HA:=hide ra
 have HB:=hide rb
 have HL:=hide (And.intro hla hlb)
 have HV:=hide (And.intro hva hvb)
 obtain ⟨W,hW⟩:∃ W,W = wa + wb:=⟨_,rfl⟩
 have hWI:(wa:Int) + (wb:Int) = (W:Int):=by omega
 have hWb:W ≤ 18446744073709551615:=by omega
 rw [← hW]
 clear ra rb hla hlb hva hvb hs hW hw
 go_enter Tryz.func151,Tryz.ntmps151
 go_upto_region 1 with (fail)
 go_cut [5] from 7 to 16 (fun t5 wx => ∃ gX gV,t5 = .pointer (some ⟨gX,0,none⟩) ∧ Bk wx gX 226 #[.int .u64 W,.slice (some ⟨gV,0,none⟩) n n] ∧ Bk wx gV 3 (madeCells #[.int .i64 0] n) ∧ w.heap.size + 2 < gX ∧ w.heap.size + 2 < gV ∧ gX ≠ gV ∧
  Bk wx w.heap.size 226 #[.int .u64 wa,.slice Aa n ca] ∧ Bk wx (w.heap.size + 1) 226 #[.int .u64 wb,.slice Ab n cb] ∧ Bk wx (w.heap.size + 1 + 1) 226 #[.int .u64 0,.slice none 0 0] ∧ Below w.heap.size w wx)
 case first =>
  go_region
  all_goals go_wp2_with fail
  all_goals go_meet
  case rel =>
   obtain ⟨e0,e1,e2,e3,e4,eb⟩:=five_new w 226 226 226 3 226 #[.int .u64 wa,.slice Aa n ca] #[.int .u64 wb,.slice Ab n cb] #[.int .u64 0,.slice none 0 0] (madeCells #[.int .i64 0] n) #[.int .u64 W,.slice (some ⟨w.heap.size + 1 + 1 + 1,0,none⟩) n n]
   exact ⟨w.heap.size + 1 + 1 + 1 + 1,w.heap.size + 1 + 1 + 1,rfl,e4,e3,by omega,by omega,by omega,e0,e1,e2,eb⟩
  case rel =>
   obtain ⟨e0,e1,e2,e3,e4,eb⟩:=five_new w 226 226 226 226 3 #[.int .u64 wa,.slice Aa n ca] #[.int .u64 wb,.slice Ab n cb] #[.int .u64 0,.slice none 0 0] #[.int .u64 W,.slice (some ⟨w.heap.size + 1 + 1 + 1 + 1,0,none⟩) n n] (madeCells #[.int .i64 0] n)
   exact ⟨w.heap.size + 1 + 1 + 1,w.heap.size + 1 + 1 + 1 + 1,rfl,e3,e4,by omega,by omega,by omega,e0,e1,e2,eb⟩
 case rest =>
  obtain ⟨gX,gV,rfl,kX,kV,hgX,hgV,hne,ka,kb,kr,hbe⟩:=hcut
  obtain ⟨x0,x1⟩:=two_cells kX
  go_wp2_with fail
  go_loopw [20] (fun vi wr => ∃ k:Nat,k ≤ n ∧ vi = .int .i64 k ∧ Hid (Bk wr gX 226 #[.int .u64 W,.slice (some ⟨gV,0,none⟩) n n]) ∧ Hid (Bk wr gV 3 ((sumsK va vb k n).map fun (x:Nat) => Value.int .i64 x).toArray) ∧
   Hid (Bk wr w.heap.size 226 #[.int .u64 wa,.slice Aa n ca]) ∧ Hid (Bk wr (w.heap.size + 1) 226 #[.int .u64 wb,.slice Ab n cb]) ∧ Hid (Bk wr (w.heap.size + 1 + 1) 226 #[.int .u64 0,.slice none 0 0]) ∧ Below w.heap.size w wr) (fun i _ => n - (intOf i).toNat)
  case atStart => exact ⟨0,by omega,rfl,hide kX,hide (by rw [sumsK_zero,zeros_made];exact kV),hide ka,hide kb,hide kr,hbe⟩
  case round =>
   obtain ⟨k,hk,rfl,KX,KV,KA,KB,KR,hbw⟩:=hrel
   clear hbe kX kV ka kb kr x0 x1
   obtain ⟨x0,x1⟩:=two_cells KX.out
   by_cases hlt:k < n
   · obtain ⟨a0,a1⟩:=two_cells KA.out
     obtain ⟨b0,b1⟩:=two_cells KB.out
     obtain ⟨x,hx⟩:∃ x,va[k]? = some x:=⟨va[k]'(by rw [HL.out.1];exact hlt),by simp [HL.out.1,hlt]⟩
     obtain ⟨y,hy⟩:∃ y,vb[k]? = some y:=⟨vb[k]'(by rw [HL.out.2];exact hlt),by simp [HL.out.2,hlt]⟩
     obtain ⟨ba,oa,rfl,hba,ca0⟩:=HA.out k (.int .i64 x) (by rw [List.getElem?_map,hx];rfl)
     obtain ⟨bb,ob,rfl,hbb,cb0⟩:=HB.out k (.int .i64 y) (by rw [List.getElem?_map,hy];rfl)
     have da:=(hbw.cell (p:=⟨ba,oa + k,none⟩) hba).trans ca0
     have db:=(hbw.cell (p:=⟨bb,ob + k,none⟩) hbb).trans cb0
     have hx1:=HV.out.1 x (List.mem_of_getElem? hx)
     have hy1:=HV.out.2 y (List.mem_of_getElem? hy)
     have hst:=sumsK_step HS.out hlt hx hy
     have hkl:k < (sumsK va vb k n).length:=by rw [sumsK_length HS.out hk];exact hlt
     obtain ⟨vz,v0⟩:∃ vz,wr.cell? ⟨gV,k,none⟩ = some vz:=⟨_,by rw [KV.out.cell k,List.getElem?_toArray,List.getElem?_map,List.getElem?_eq_getElem hkl];rfl⟩
     obtain ⟨z,hz⟩:∃ z,z = x + y:=⟨_,rfl⟩
     have hzI:(x:Int) + (y:Int) = (z:Int):=by omega
     have hzb:z ≤ 2097152:=by omega
     rw [← hz] at hst
     have v1:=KV.out.free k
     have HSt:=hide hst
     clear ca0 cb0 hx hy hst hkl hz
     go_wp2_with fail
     go_region
     go_wp2_with fail
     go_roundw
     case rel =>
      refine ⟨k + 1,by omega,by go_num,hide (KX.out.far hne _).drew, ?_,hide (KA.out.far (by show w.heap.size ≠ gV;omega) _).drew,hide (KB.out.far (by show w.heap.size + 1 ≠ gV;omega) _).drew,hide (KR.out.far (by show w.heap.size + 1 + 1 ≠ gV;omega) _).drew, ?_⟩
      · have e:=(KV.out.set_ k (.int .i64 (z:Nat))).drew
        rw [List.setIfInBounds_toArray,show (Value.int .i64 (z:Nat)) = (fun (x:Nat) => Value.int .i64 x) z from rfl,← List.map_set,HSt.out] at e
        exact hide e
      · exact (hbw.setCell (p:=⟨gV,k,none⟩) (by show w.heap.size ≤ gV;omega) _).drew
     case measure => simp [intOf];omega
   · obtain rfl:k = n:=by omega
     have r0:=KR.out.free 0
     have r1:=KR.out.free 1
     obtain ⟨q0,q1⟩:=two_cells KR.out
     go_wp2_with fail
     refine bodyPost_ret (v:=.agg #[.int .u64 (W:Nat),.slice (some ⟨gV,0,none⟩) k k]) (by simp [results,Tryz.results151,go_sem,q0,q1]) rfl ?_
     refine ⟨gV,rfl, ?_,by omega, ?_⟩
     · have e:=KV.out
       rw [sumsK_all HS.out] at e
       exact (e.far (by show gV ≠ w.heap.size + 1 + 1;omega) _).far (by show gV ≠ w.heap.size + 1 + 1;omega) _
     · exact (hbw.setCell (p:=⟨w.heap.size + 1 + 1,0,none⟩) (by show w.heap.size ≤ w.heap.size + 1 + 1;omega) _).setCell (p:=⟨w.heap.size + 1 + 1,1,none⟩) (by show w.heap.size ≤ w.heap.size + 1 + 1;omega) _
structure PI where
 w:Nat
 v:List Nat
def insP (x:PI):List PI → List PI
 | [] => [x]
 | y :: l => if y.w ≤ x.w then y :: insP x l else x :: y :: l
def SortedP (l:List PI):Prop:=l.Pairwise fun a b => a.w ≤ b.w
def mrgA (l:PI) (f:List PI → List PI):List PI → List PI
 | [] => l :: f []
 | p :: ps => if l.w ≤ p.w then l :: f (p :: ps) else p :: mrgA l f ps
def mrgP:List PI → List PI → List PI
 | [],ps => ps
 | l :: ls,ps => mrgA l (mrgP ls) ps
theorem mrgP_nil (ls:List PI):mrgP ls [] = ls:=by
 induction ls with
 | nil => rfl
 | cons l ls ih => rw [mrgP,mrgA,ih]
theorem mrgP_le {l p:PI} {ls ps:List PI} (h:l.w ≤ p.w):mrgP (l :: ls) (p :: ps) = l :: mrgP ls (p :: ps):=by rw [mrgP,mrgA,if_pos h]
theorem mrgP_gt {l p:PI} {ls ps:List PI} (h:¬ l.w ≤ p.w):mrgP (l :: ls) (p :: ps) = p :: mrgP (l :: ls) ps:=by rw [mrgP,mrgA,if_neg h,mrgP]
theorem ins_mrg {p:PI}:∀ {ls ps:List PI},(∀ q ∈ ps,p.w ≤ q.w) → mrgP (insP p ls) ps = mrgP ls (p :: ps):=by
 intro ls
 induction ls with
 | nil =>
   intro ps h
   cases ps with
   | nil => rfl
   | cons q ps => rw [insP,mrgP_le (h q (by simp))];rfl
 | cons y ls ih =>
   intro ps h
   rw [insP]
   by_cases g:y.w ≤ p.w
   · rw [if_pos g,mrgP_le g]
     cases ps with
     | nil => rw [mrgP_nil,← ih (ps:=[]) (by simp),mrgP_nil]
     | cons q ps => rw [mrgP_le (Nat.le_trans g (h q (by simp))),ih h]
   · rw [if_neg g,mrgP_gt g]
     cases ps with
     | nil => rw [mrgP_nil,mrgP_nil]
     | cons q ps => rw [mrgP_le (h q (by simp))]
theorem fold_ins:∀ {ps ls:List PI},SortedP ps → ps.foldl (fun l x => insP x l) ls = mrgP ls ps:=by
 intro ps
 induction ps with
 | nil => intro ls _;rw [mrgP_nil];rfl
 | cons p ps ih =>
   intro ls h
   have h':=List.pairwise_cons.1 h
   rw [List.foldl_cons,ih h'.2,ins_mrg h'.1]
def bothP (a b:PI):PI:=⟨a.w + b.w,List.zipWith (fun x y => x + y) a.v b.v⟩
def pairsP:List PI → List PI
 | a :: b :: r => bothP a b :: pairsP r
 | _ => []
def levP (lv:List PI):Nat → List PI
 | 0 => lv
 | j + 1 => (pairsP (levP lv j)).foldl (fun l x => insP x l) lv
def wsP (l:List PI):List Nat:=l.map fun x => x.w
def wsI (l:List It):List Nat:=l.map fun x => x.w
theorem sortedP_of {l:List PI} {l':List It} (h:wsP l = wsI l') (hs:SortedW l'):SortedP l:=by
 have h1:(wsI l').Pairwise fun a b => a ≤ b:=List.pairwise_map.2 hs
 rw [← h] at h1
 exact List.pairwise_map.1 h1
theorem pairs_w:∀ (n i:Nat) {l:List PI} {l':List It},l.length ≤ n → wsP l = wsI l' → wsP (pairsP l) = wsI (pkgs i l'):=by
 intro n
 induction n with
 | zero =>
   intro i l l' h e
   have:l = []:=List.eq_nil_of_length_eq_zero (by omega)
   subst this
   cases l' with
   | nil => rfl
   | cons _ _ => simp [wsP,wsI] at e
 | succ n ih =>
   intro i l l' h e
   match l,l',h,e with
   | [],[],_,_ => rfl
   | [],_ :: _,_,e => simp [wsP,wsI] at e
   | [_],[],_,e => simp [wsP,wsI] at e
   | [_],[_],_,_ => simp [pairsP,pkgs,wsP,wsI]
   | [_],_ :: _ :: _,_,e => simp [wsP,wsI] at e
   | _ :: _ :: _,[],_,e => simp [wsP,wsI] at e
   | _ :: _ :: _,[_],_,e => simp [wsP,wsI] at e
   | a :: b :: r,a' :: b' :: r',h,e =>
     simp only [wsP,wsI,List.map_cons,List.cons.injEq] at e
     obtain ⟨e1,e2,e3⟩:=e
     have:=ih (i + 2) (l:=r) (l':=r') (by simp at h;omega) e3
     rw [pairsP,pkgs]
     show _ :: wsP (pairsP r) = _ :: wsI (pkgs (i + 2) r')
     rw [this]
     show (a.w + b.w) :: _ = (a'.w + b'.w) :: _
     rw [e1,e2]
theorem mrg_same:∀ {ls:List PI} {ls':List It} {ps:List PI} {ps':List It},wsP ls = wsI ls' → wsP ps = wsI ps' → wsP (mrgP ls ps) = wsI (mrg ls' ps'):=by
 intro ls
 induction ls with
 | nil =>
   intro ls' ps ps' h h2
   cases ls' with
   | nil => exact h2
   | cons _ _ => simp [wsP,wsI] at h
 | cons l ls ih =>
   intro ls' ps
   cases ls' with
   | nil => intro ps' h;simp [wsP,wsI] at h
   | cons l' ls' =>
     induction ps with
     | nil =>
       intro ps' h h2
       cases ps' with
       | nil => rw [mrgP_nil,mrg_nil];exact h
       | cons _ _ => simp [wsP,wsI] at h2
     | cons p ps ih2 =>
       intro ps' h h2
       cases ps' with
       | nil => simp [wsP,wsI] at h2
       | cons p' ps' =>
         have h':=h
         have h2':=h2
         simp only [wsP,wsI,List.map_cons,List.cons.injEq] at h' h2'
         by_cases g:l.w ≤ p.w
         · rw [mrgP_le g,mrg_le (by omega)]
           show l.w :: wsP _ = l'.w :: wsI _
           rw [h'.1,ih h'.2 h2]
         · rw [mrgP_gt g,mrg_gt (by omega)]
           show p.w :: wsP _ = p'.w :: wsI _
           rw [h2'.1,ih2 h h2'.2]
def sumF (f:PI → Nat) (l:List PI):Nat:=(l.map f).sum
theorem sumF_cons (f:PI → Nat) (x:PI) (l:List PI):sumF f (x :: l) = f x + sumF f l:=by simp [sumF]
theorem len_wsP {l:List PI} {l':List It} (h:wsP l = wsI l'):l.length = l'.length:=by
 have:=congrArg List.length h
 simpa [wsP,wsI] using this
theorem mrg_sums (f:PI → Nat):∀ {ls:List PI} {ls':List It} {ps:List PI} {ps':List It},wsP ls = wsI ls' → wsP ps = wsI ps' → (∀ x ∈ ls',0 ≤ x.leaf) → (∀ x ∈ ps',x.leaf < 0) →
 ∀ m,sumF f ((mrgP ls ps).take m) = sumF f (ls.take (lfs ((mrg ls' ps').take m)).length) + sumF f (ps.take (pkN ((mrg ls' ps').take m))):=by
 intro ls
 induction ls with
 | nil =>
   intro ls' ps ps' h h2 h3 h4 m
   have e:=len_wsP h2
   cases ls' with
   | cons _ _ => simp [wsP,wsI] at h
   | nil =>
     have e2:pkN (ps'.take m) = (ps'.take m).length:=by
      unfold pkN
      rw [List.filter_eq_self.2 (fun x hx => decide_eq_true (h4 x (List.mem_of_mem_take hx)))]
     show sumF f (ps.take m) = sumF f (List.take _ []) + sumF f (ps.take (pkN (ps'.take m)))
     rw [e2,List.length_take,← e,List.take_nil]
     rcases Nat.le_total m ps.length with g | g
     · rw [Nat.min_eq_left g];simp [sumF]
     · rw [Nat.min_eq_right g,List.take_of_length_le g,List.take_of_length_le (Nat.le_refl _)];simp [sumF]
 | cons l ls ih =>
   intro ls' ps
   cases ls' with
   | nil => intro ps' h;simp [wsP,wsI] at h
   | cons l' ls' =>
     induction ps with
     | nil =>
       intro ps' h h2 h3 h4 m
       cases ps' with
       | cons _ _ => simp [wsP,wsI] at h2
       | nil =>
         have e:=len_wsP h
         have e2:lfs ((l' :: ls').take m) = (l' :: ls').take m:=List.filter_eq_self.2 (fun x hx => decide_eq_true (h3 x (List.mem_of_mem_take hx)))
         rw [mrgP_nil,mrg_nil,e2,List.length_take,← e,List.take_nil]
         rcases Nat.le_total m (l :: ls).length with g | g
         · rw [Nat.min_eq_left g];simp [sumF]
         · rw [Nat.min_eq_right g,List.take_of_length_le g,List.take_of_length_le (Nat.le_refl _)];simp [sumF]
     | cons p ps ih2 =>
       intro ps' h h2 h3 h4 m
       cases ps' with
       | nil => simp [wsP,wsI] at h2
       | cons p' ps' =>
         have h':=h
         have h2':=h2
         simp only [wsP,wsI,List.map_cons,List.cons.injEq] at h' h2'
         have hl:=h3 l' (by simp)
         have hp:=h4 p' (by simp)
         cases m with
         | zero => simp [sumF,lfs,pkN]
         | succ m =>
           by_cases g:l.w ≤ p.w
           · rw [mrgP_le g,mrg_le (by omega),List.take_succ_cons,List.take_succ_cons,sumF_cons,ih h'.2 h2 (fun x hx => h3 x (List.mem_cons_of_mem _ hx)) h4,lfs_cons,if_pos hl,pkN_cons,if_neg (by omega),Nat.zero_add,List.length_cons,List.take_succ_cons,sumF_cons]
             omega
           · rw [mrgP_gt g,mrg_gt (by omega),List.take_succ_cons,List.take_succ_cons,sumF_cons,ih2 h h2'.2 h3 (fun x hx => h4 x (List.mem_cons_of_mem _ hx)),lfs_cons,if_neg (by omega),pkN_cons,if_pos hp,Nat.add_comm 1,List.take_succ_cons,sumF_cons]
             omega
def atV (k:Nat) (x:PI):Nat:=x.v.getD k 0
theorem zip_getD (k:Nat):∀ {a b:List Nat},a.length = b.length → (List.zipWith (fun x y => x + y) a b).getD k 0 = a.getD k 0 + b.getD k 0:=by
 intro a b h
 simp only [List.getD_eq_getElem?_getD,List.getElem?_zipWith]
 rcases Nat.lt_or_ge k a.length with g | g
 · rw [List.getElem?_eq_getElem g,List.getElem?_eq_getElem (by omega)];rfl
 · rw [List.getElem?_eq_none g,List.getElem?_eq_none (by omega)];rfl
theorem pairs_sums {n:Nat} (k:Nat):∀ (b:Nat) {l:List PI},2 * b ≤ l.length → (∀ x ∈ l,x.v.length = n) → sumF (atV k) ((pairsP l).take b) = sumF (atV k) (l.take (2 * b)):=by
 intro b
 induction b with
 | zero => intro l _ _;simp [sumF]
 | succ b ih =>
   intro l h hn
   match l,h,hn with
   | [],h,_ => simp at h
   | [_],h,_ => simp at h;omega
   | x :: y :: r,h,hn =>
     rw [pairsP,List.take_succ_cons,sumF_cons,ih (by simp at h;omega) (fun z hz => hn z (by simp [hz])),show 2 * (b + 1) = 2 * b + 1 + 1 by omega,List.take_succ_cons,List.take_succ_cons,sumF_cons,sumF_cons]
     show (List.zipWith _ _ _).getD k 0 + _ = _
     rw [zip_getD k (by rw [hn x (by simp),hn y (by simp)])]
     show _ = x.v.getD k 0 + (y.v.getD k 0 + _)
     omega
theorem insP_mem {x z:PI} {l:List PI} (h:z ∈ insP x l):z = x ∨ z ∈ l:=by
 induction l with
 | nil => simp [insP] at h;exact .inl h
 | cons y l ih =>
   rw [insP] at h
   split at h
   · rcases List.mem_cons.1 h with rfl | h
     · exact .inr (by simp)
     · rcases ih h with h | h
       · exact .inl h
       · exact .inr (List.mem_cons_of_mem _ h)
   · rcases List.mem_cons.1 h with rfl | h
     · exact .inl rfl
     · exact .inr h
theorem foldl_mem {z:PI}:∀ {ps ls:List PI},z ∈ ps.foldl (fun l x => insP x l) ls → z ∈ ls ∨ z ∈ ps:=by
 intro ps
 induction ps with
 | nil => intro ls h;exact .inl h
 | cons p ps ih =>
   intro ls h
   rw [List.foldl_cons] at h
   rcases ih h with h | h
   · rcases insP_mem h with rfl | h
     · exact .inr (by simp)
     · exact .inl h
   · exact .inr (List.mem_cons_of_mem _ h)
theorem pairs_all {Q R:PI → Prop} (hQR:∀ a b,Q a → Q b → R (bothP a b)):∀ (n:Nat) {l:List PI},l.length ≤ n → (∀ x ∈ l,Q x) → ∀ x ∈ pairsP l,R x:=by
 intro n
 induction n with
 | zero => intro l h _;have:l = []:=List.eq_nil_of_length_eq_zero (by omega);subst this;intro x hx;simp [pairsP] at hx
 | succ n ih =>
   intro l h hq
   match l,h,hq with
   | [],_,_ => intro x hx;simp [pairsP] at hx
   | [_],_,_ => intro x hx;simp [pairsP] at hx
   | a :: b :: r,h,hq =>
     intro x hx
     rw [pairsP] at hx
     rcases List.mem_cons.1 hx with rfl | hx
     · exact hQR _ _ (hq a (by simp)) (hq b (by simp))
     · exact ih (l:=r) (by simp at h;omega) (fun y hy => hq y (by simp [hy])) x hx
theorem lev_len {n:Nat} {lv:List PI} (h:∀ x ∈ lv,x.v.length = n):∀ j,∀ x ∈ levP lv j,x.v.length = n:=by
 intro j
 induction j with
 | zero => exact h
 | succ j ih =>
   intro x hx
   rcases foldl_mem hx with hx | hx
   · exact h x hx
   · exact pairs_all (Q:=fun x => x.v.length = n) (R:=fun x => x.v.length = n) (fun a b ha hb => by show (List.zipWith _ _ _).length = n;rw [List.length_zipWith,ha,hb];omega) _ (Nat.le_refl _) ih x hx
theorem lev_le {n:Nat} {lv:List PI} (h:∀ x ∈ lv,x.v.length = n) (h1:∀ x ∈ lv,∀ k,atV k x ≤ 1):∀ j,∀ x ∈ levP lv j,∀ k,atV k x ≤ 2 ^ j:=by
 intro j
 induction j with
 | zero => exact h1
 | succ j ih =>
   intro x hx
   rcases foldl_mem hx with hx | hx
   · intro k
     have:=h1 x hx k
     have:1 ≤ 2 ^ (j + 1):=Nat.one_le_two_pow
     omega
   · refine pairs_all (Q:=fun x => x.v.length = n ∧ ∀ k,atV k x ≤ 2 ^ j) (R:=fun x => ∀ k,atV k x ≤ 2 ^ (j + 1)) (fun a b ha hb k => ?_) _ (Nat.le_refl _) (fun x hx => ⟨lev_len h j x hx,ih x hx⟩) x hx
     show (List.zipWith _ _ _).getD k 0 ≤ _
     rw [zip_getD k (by rw [ha.1,hb.1]),Nat.pow_succ]
     have h1:=ha.2 k
     have h2:=hb.2 k
     unfold atV at h1 h2
     omega
theorem leafIts_wsI (k:Nat) (l:List Nat):wsI (leafIts k l) = l:=by
 induction l generalizing k with
 | nil => rfl
 | cons w l ih => rw [leafIts];show w :: wsI _ = _;rw [ih]
section
variable {lw:List Nat} {lv:List PI}
theorem lev_w (hs:lw.Pairwise fun a b => a ≤ b) (h0:wsP lv = lw):∀ j,wsP (levP lv j) = wsI (lvlL lw j):=by
 intro j
 induction j with
 | zero =>
   show wsP lv = wsI (nxtL lw [])
   unfold nxtL
   rw [show pkgs 0 [] = [] from rfl,mrg_nil,leafIts_wsI,h0]
 | succ j ih =>
   have hp:=pairs_w (levP lv j).length 0 (Nat.le_refl _) ih
   have hsp:SortedP (pairsP (levP lv j)):=sortedP_of hp (pkgs_sorted _ _ _ (Nat.le_refl _) (lvlL_sorted hs j))
   show wsP ((pairsP (levP lv j)).foldl (fun l x => insP x l) lv) = wsI (nxtL lw (lvlL lw j))
   rw [fold_ins hsp]
   exact mrg_same (by rw [leafIts_wsI,h0]) hp
theorem lev_sorted (hs:lw.Pairwise fun a b => a ≤ b) (h0:wsP lv = lw) (j:Nat):SortedP (levP lv j):=sortedP_of (lev_w hs h0 j) (lvlL_sorted hs j)
theorem lev_length (hs:lw.Pairwise fun a b => a ≤ b) (h0:wsP lv = lw) (j:Nat):(levP lv j).length = (lvlL lw j).length:=len_wsP (lev_w hs h0 j)
theorem lev_step (hs:lw.Pairwise fun a b => a ≤ b) (h0:wsP lv = lw) {n:Nat} (hn:∀ x ∈ lv,x.v.length = n) (j m k:Nat) :
 sumF (atV k) ((levP lv (j + 1)).take m) = sumF (atV k) (lv.take (lfC lw (lvlL lw j) m)) + sumF (atV k) ((levP lv j).take (2 * pkN ((lvlL lw (j + 1)).take m))):=by
 have hp:=pairs_w (levP lv j).length 0 (Nat.le_refl _) (lev_w hs h0 j)
 have hsp:SortedP (pairsP (levP lv j)):=sortedP_of hp (pkgs_sorted _ _ _ (Nat.le_refl _) (lvlL_sorted hs j))
 have h1:=mrg_sums (atV k) (ls:=lv) (ls':=leafIts 0 lw) (by rw [leafIts_wsI,h0]) hp (fun x hx => by have:=leafIts_leaf hx;omega) (fun x hx => by have:=pkgs_leaf _ _ _ (Nat.le_refl _) hx;omega) m
 show sumF _ (((pairsP (levP lv j)).foldl (fun l x => insP x l) lv).take m) = _
 rw [fold_ins hsp,h1]
 have h2:=(first_pks lw (lvlL lw j) m).2
 congr 1
 exact pairs_sums k _ (by rw [lev_length hs h0];show 2 * pkN ((nxtL lw (lvlL lw j)).take m) ≤ _;omega) (lev_len hn j)
theorem lev_base (h0:wsP lv = lw) (m k:Nat):sumF (atV k) ((levP lv 0).take m) = sumF (atV k) (lv.take (lfC lw [] m)):=by
 have e:nxtL lw [] = leafIts 0 lw:=by unfold nxtL;rw [show pkgs 0 [] = [] from rfl,mrg_nil]
 have e2:lfC lw [] m = min m lw.length:=by
  unfold lfC
  rw [e,show lfs ((leafIts 0 lw).take m) = (leafIts 0 lw).take m from List.filter_eq_self.2 (fun x hx => decide_eq_true (by have:=leafIts_leaf (List.mem_of_mem_take hx);omega)),List.length_take,leafIts_length]
 have e3:lv.length = lw.length:=by rw [← h0];simp [wsP]
 show sumF _ (lv.take m) = _
 rw [e2,← e3]
 rcases Nat.le_total m lv.length with g | g
 · rw [Nat.min_eq_left g]
 · rw [Nat.min_eq_right g,List.take_of_length_le g,List.take_of_length_le (Nat.le_refl _)]
theorem lev_total (hs:lw.Pairwise fun a b => a ≤ b) (h0:wsP lv = lw) {n:Nat} (hn:∀ x ∈ lv,x.v.length = n) {L:Nat} (k:Nat):∀ t,t < L →
 sumF (atV k) ((levP lv (L - 1)).take (2 * lw.length - 2)) = SS (fun t => sumF (atV k) (lv.take (Ck lw L t))) t + sumF (atV k) ((levP lv (L - 1 - t)).take (Mk lw L t)):=by
 intro t
 induction t with
 | zero => intro _;show _ = 0 + _;rw [Nat.zero_add];rfl
 | succ t ih =>
   intro ht
   obtain ⟨j,hj⟩:∃ j,L - 1 - t = j + 1:=⟨L - 1 - t - 1,by omega⟩
   have e:L - 1 - (t + 1) = j:=by omega
   rw [ih (by omega),hj,lev_step hs h0 hn,e,Mk_succ (by omega),hj]
   have ec:Ck lw L t = lfC lw (lvlL lw j) (Mk lw L t):=by unfold Ck;rw [if_pos (show t < L by omega),hj];rfl
   show _ = (SS (fun t => sumF (atV k) (lv.take (Ck lw L t))) t + sumF (atV k) (lv.take (Ck lw L t))) + _
   rw [ec]
   omega
theorem lev_all (hs:lw.Pairwise fun a b => a ≤ b) (h0:wsP lv = lw) {n:Nat} (hn:∀ x ∈ lv,x.v.length = n) {L:Nat} (hL:1 ≤ L) (k:Nat) :
 sumF (atV k) ((levP lv (L - 1)).take (2 * lw.length - 2)) = SS (fun t => sumF (atV k) (lv.take (Ck lw L t))) L:=by
 obtain ⟨j,rfl⟩:∃ j,L = j + 1:=⟨L - 1,by omega⟩
 have h:=lev_total hs h0 hn (L:=j + 1) k j (by omega)
 rw [h,show j + 1 - 1 - j = 0 by omega,lev_base h0]
 have ec:Ck lw (j + 1) j = lfC lw [] (Mk lw (j + 1) j):=by unfold Ck;rw [if_pos (show j < j + 1 by omega),show j + 1 - 1 - j = 0 by omega];rfl
 show _ = SS (fun t => sumF (atV k) (lv.take (Ck lw (j + 1) t))) j + sumF (atV k) (lv.take (Ck lw (j + 1) j))
 rw [ec]
end
def itemS (ws:List Int) (s:Nat):PI:=⟨(ws.getD s 0).toNat,(symL ws).map fun t => if t = s then 1 else 0⟩
theorem put_map {ws:List Int} (h0:∀ x ∈ ws,0 ≤ x) (x:Nat) (l:List Nat):insP (itemS ws x) (l.map (itemS ws)) = (putL ws x l).map (itemS ws):=by
 have h1:∀ s,0 ≤ ws.getD s 0:=fun s => by
  rw [List.getD_eq_getElem?_getD]
  rcases Nat.lt_or_ge s ws.length with g | g
  · rw [List.getElem?_eq_getElem g];exact h0 _ (List.getElem_mem g)
  · rw [List.getElem?_eq_none g];exact Int.le_refl 0
 induction l with
 | nil => rfl
 | cons y l ih =>
   rw [List.map_cons,insP,putL]
   have a:=h1 x
   have b:=h1 y
   show (if (ws.getD y 0).toNat ≤ (ws.getD x 0).toNat then _ else _) = _
   by_cases g:ws.getD x 0 < ws.getD y 0
   · rw [if_pos g,if_neg (by omega)];rfl
   · rw [if_neg g,if_pos (by omega),ih];rfl
def leavesP (ws:List Int):List PI:=(symL ws).foldl (fun l s => insP (itemS ws s) l) []
theorem leavesP_eq {ws:List Int} (h0:∀ x ∈ ws,0 ≤ x):leavesP ws = (ordL ws).map (itemS ws):=by
 have:∀ (s l:List Nat),s.foldl (fun l s => insP (itemS ws s) l) (l.map (itemS ws)) = (s.foldl (fun l x => putL ws x l) l).map (itemS ws):=by
  intro s
  induction s with
  | nil => intro l;rfl
  | cons x s ih => intro l;rw [List.foldl_cons,List.foldl_cons,put_map h0,ih]
 exact this (symL ws) []
theorem leavesP_w {ws:List Int} (h0:∀ x ∈ ws,0 ≤ x):wsP (leavesP ws) = lwL ws:=by
 rw [leavesP_eq h0];unfold wsP lwL;rw [List.map_map];rfl
theorem leavesP_len {ws:List Int} (h0:∀ x ∈ ws,0 ≤ x):∀ x ∈ leavesP ws,x.v.length = (symL ws).length:=by
 rw [leavesP_eq h0]
 intro x hx
 obtain ⟨s,_,rfl⟩:=List.mem_map.1 hx
 show ((symL ws).map _).length = _
 rw [List.length_map]
theorem itemS_at {ws:List Int} {s k t:Nat} (hk:(symL ws)[k]? = some t):atV k (itemS ws s) = if t = s then 1 else 0:=by
 show ((symL ws).map _).getD k 0 = _
 rw [List.getD_eq_getElem?_getD,List.getElem?_map,hk];rfl
theorem leavesP_le {ws:List Int} (h0:∀ x ∈ ws,0 ≤ x):∀ x ∈ leavesP ws,∀ k,atV k x ≤ 1:=by
 rw [leavesP_eq h0]
 intro x hx k
 obtain ⟨s,_,rfl⟩:=List.mem_map.1 hx
 rcases Nat.lt_or_ge k (symL ws).length with g | g
 · rw [itemS_at (List.getElem?_eq_getElem g)];split <;> omega
 · show ((symL ws).map _).getD k 0 ≤ 1
   rw [List.getD_eq_getElem?_getD,List.getElem?_eq_none (by rw [List.length_map];exact g)];exact Nat.zero_le _
theorem nodup_take {a:Nat}:∀ {o:List Nat} {p:Nat} (C:Nat),o.Nodup → o[p]? = some a → ((o.take C).map fun s => if a = s then 1 else 0).sum = if p < C then 1 else 0:=by
 intro o
 induction o with
 | nil => intro p C _ h;simp at h
 | cons x o ih =>
   intro p C hn h
   have hn':=List.nodup_cons.1 hn
   cases C with
   | zero => simp
   | succ C =>
     rw [List.take_succ_cons,List.map_cons,List.sum_cons]
     cases p with
     | zero =>
       have h:x = a:=by simpa using h
       subst h
       rw [if_pos rfl,if_pos (by omega)]
       have:((o.take C).map fun s => if x = s then 1 else 0).sum = 0:=by
        have:∀ l:List Nat,x ∉ l → (l.map fun s => if x = s then 1 else 0).sum = 0:=by
         intro l
         induction l with
         | nil => intro _;rfl
         | cons y l ih2 => intro hl;simp at hl;rw [List.map_cons,List.sum_cons,if_neg hl.1,ih2 hl.2]
        exact this _ (fun h => hn'.1 (List.mem_of_mem_take h))
       rw [this]
     | succ p =>
       have h:o[p]? = some a:=by simpa using h
       have hne:a ≠ x:=fun e => hn'.1 (e ▸ List.mem_of_getElem? h)
       rw [if_neg hne,ih C hn'.2 h]
       by_cases g:p < C
       · rw [if_pos g,if_pos (by omega)]
       · rw [if_neg g,if_neg (by omega)]
theorem leaves_first {ws:List Int} (h0:∀ x ∈ ws,0 ≤ x) {k p t:Nat} (hk:(symL ws)[k]? = some t) (hp:(ordL ws)[p]? = some t) (C:Nat):sumF (atV k) ((leavesP ws).take C) = if p < C then 1 else 0:=by
 rw [leavesP_eq h0,← List.map_take]
 unfold sumF
 rw [List.map_map,← nodup_take C (ord_nodup ws) hp]
 congr 1
 refine List.map_congr_left fun s _ => ?_
 exact itemS_at hk
theorem lev_cnt {ws:List Int} (h0:∀ x ∈ ws,0 ≤ x) {L:Nat} (hL:1 ≤ L) {k p t:Nat} (hk:(symL ws)[k]? = some t) (hp:(ordL ws)[p]? = some t) :
 sumF (atV k) ((levP (leavesP ws) (L - 1)).take (2 * (ordL ws).length - 2)) = (cntL (lwL ws) L).getD p 0:=by
 have h:=lev_all (lw:=lwL ws) (lwL_sorted ws) (leavesP_w h0) (leavesP_len h0) hL k
 rw [lwL_length] at h
 rw [h,cntL_get]
 exact SS_congr fun i _ => leaves_first h0 hk hp _
def addK (s v:List Nat) (k:Nat) (o:List Nat):List Nat:=(List.range k).foldl (fun o q => o.set (s.getD q 0) (o.getD (s.getD q 0) 0 + v.getD q 0)) o
theorem addK_succ (s v:List Nat) (k:Nat) (o:List Nat):addK s v (k + 1) o = (addK s v k o).set (s.getD k 0) ((addK s v k o).getD (s.getD k 0) 0 + v.getD k 0):=by
 unfold addK
 rw [List.range_succ,List.foldl_append];rfl
theorem addK_length (s v:List Nat) (k:Nat) (o:List Nat):(addK s v k o).length = o.length:=by
 induction k with
 | zero => rfl
 | succ k ih => rw [addK_succ,List.length_set,ih]
theorem getD_inj {s:List Nat} (hn:s.Nodup) {i j:Nat} (hi:i < s.length) (hj:j < s.length) (h:s.getD i 0 = s.getD j 0):i = j:=by
 rw [List.getD_eq_getElem?_getD,List.getD_eq_getElem?_getD,List.getElem?_eq_getElem hi,List.getElem?_eq_getElem hj] at h
 exact (List.getElem_inj hn).1 h
theorem getD_set_ne {l:List Nat} {i j v:Nat} (h:i ≠ j):(l.set i v).getD j 0 = l.getD j 0:=by rw [List.getD_eq_getElem?_getD,List.getElem?_set_ne h,← List.getD_eq_getElem?_getD]
theorem getD_set_self {l:List Nat} {i v:Nat} (h:i < l.length):(l.set i v).getD i 0 = v:=by rw [List.getD_eq_getElem?_getD,List.getElem?_set_self h];rfl
theorem addK_out {s v o:List Nat} {i:Nat}:∀ k,(∀ q,q < k → s.getD q 0 ≠ i) → (addK s v k o).getD i 0 = o.getD i 0:=by
 intro k
 induction k with
 | zero => intro _;rfl
 | succ k ih => intro h;rw [addK_succ,getD_set_ne (h k (by omega)),ih (fun q hq => h q (by omega))]
theorem addK_in {s v o:List Nat} (hn:s.Nodup) (hs:∀ x ∈ s,x < o.length) {q:Nat}:∀ k,k ≤ s.length → q < s.length → (addK s v k o).getD (s.getD q 0) 0 = o.getD (s.getD q 0) 0 + if q < k then v.getD q 0 else 0:=by
 intro k
 induction k with
 | zero => intro _ _;rfl
 | succ k ih =>
   intro hk hq
   rw [addK_succ]
   have hlt:s.getD k 0 < o.length:=hs _ (by rw [List.getD_eq_getElem?_getD,List.getElem?_eq_getElem (show k < s.length by omega)];exact List.getElem_mem _)
   by_cases e:q = k
   · subst e
     rw [getD_set_self (by rw [addK_length];exact hlt),ih (by omega) hq,if_neg (by omega),if_pos (by omega),Nat.add_zero]
   · rw [getD_set_ne (fun h => e (getD_inj hn (by omega) hq h).symm),ih (by omega) hq]
     by_cases g:q < k
     · rw [if_pos g,if_pos (by omega)]
     · rw [if_neg g,if_neg (by omega)]
theorem addK_le {s v o:List Nat} (hn:s.Nodup) (hs:∀ x ∈ s,x < o.length) {B M:Nat} (ho:∀ i,o.getD i 0 ≤ B) (hv:∀ i,v.getD i 0 ≤ M) {k:Nat} (hk:k ≤ s.length) (i:Nat):(addK s v k o).getD i 0 ≤ B + M:=by
 by_cases h:∃ q,q < s.length ∧ s.getD q 0 = i
 · obtain ⟨q,hq,rfl⟩:=h
   rw [addK_in hn hs k hk hq]
   have:=ho (s.getD q 0)
   have:=hv q
   split <;> omega
 · rw [addK_out k (fun q hq e => h ⟨q,by omega,e⟩)]
   have:=ho i
   omega
def outL (s:List Nat) (l:List PI) (o:List Nat):List Nat:=l.foldl (fun o x => addK s x.v s.length o) o
theorem outL_snoc (s:List Nat) (l:List PI) (x:PI) (o:List Nat):outL s (l ++ [x]) o = addK s x.v s.length (outL s l o):=by unfold outL;rw [List.foldl_append];rfl
theorem outL_length (s:List Nat) (l:List PI) (o:List Nat):(outL s l o).length = o.length:=by
 unfold outL
 induction l generalizing o with
 | nil => rfl
 | cons x l ih => rw [List.foldl_cons,ih,addK_length]
theorem outL_out {s:List Nat} {i:Nat} (h:∀ q,q < s.length → s.getD q 0 ≠ i) (l:List PI) (o:List Nat):(outL s l o).getD i 0 = o.getD i 0:=by
 unfold outL
 induction l generalizing o with
 | nil => rfl
 | cons x l ih => rw [List.foldl_cons,ih,addK_out _ h]
theorem outL_in {s:List Nat} (hn:s.Nodup) {q:Nat} (hq:q < s.length) (l:List PI):∀ o:List Nat,(∀ x ∈ s,x < o.length) → (outL s l o).getD (s.getD q 0) 0 = o.getD (s.getD q 0) 0 + sumF (atV q) l:=by
 unfold outL
 induction l with
 | nil => intro o _;rfl
 | cons x l ih =>
   intro o hs
   rw [List.foldl_cons,ih _ (fun y hy => by rw [addK_length];exact hs y hy),addK_in hn hs _ (Nat.le_refl _) hq,if_pos hq,sumF_cons]
   show _ + x.v.getD q 0 + _ = _ + (x.v.getD q 0 + _)
   omega
theorem outL_le {s:List Nat} (hn:s.Nodup) {M:Nat}:∀ {l:List PI} {o:List Nat} {B:Nat},(∀ x ∈ s,x < o.length) → (∀ i,o.getD i 0 ≤ B) → (∀ x ∈ l,∀ i,atV i x ≤ M) → ∀ i,(outL s l o).getD i 0 ≤ B + l.length * M:=by
 intro l
 induction l with
 | nil => intro o B _ ho _ i;have:=ho i;simp [outL];simpa using this
 | cons x l ih =>
   intro o B hs ho hl i
   have h1:=ih (o:=addK s x.v s.length o) (B:=B + M) (fun y hy => by rw [addK_length];exact hs y hy) (fun i => addK_le hn hs ho (hl x (by simp)) (Nat.le_refl _) i) (fun y hy => hl y (List.mem_cons_of_mem _ hy)) i
   show (outL s l (addK s x.v s.length o)).getD i 0 ≤ _
   rw [List.length_cons,Nat.succ_mul]
   omega
theorem symL_nodup (ws:List Int):(symL ws).Nodup:=(symK_sorted ws ws.length).imp fun h e => by omega
theorem sym_len (ws:List Int):(symL ws).length = (ordL ws).length:=(ordL_perm ws).length_eq.symm
def refL (ws:List Int) (L:Nat):List Nat :=
 if (symL ws).length = 0 then List.replicate ws.length 0
 else if (symL ws).length = 1 then (List.replicate ws.length 0).set ((symL ws).getD 0 0) 1
 else outL (symL ws) ((levP (leavesP ws) (L - 1)).take (2 * (symL ws).length - 2)) (List.replicate ws.length 0)
theorem zeros_getD (n i:Nat):(List.replicate n 0).getD i 0 = 0:=by
 rw [List.getD_eq_getElem?_getD,List.getElem?_replicate];split <;> rfl
theorem ext_getD {a b:List Nat} (hl:a.length = b.length) (h:∀ i,i < a.length → a.getD i 0 = b.getD i 0):a = b:=by
 apply List.ext_getElem hl
 intro i h1 h2
 have:=h i h1
 rwa [List.getD_eq_getElem?_getD,List.getD_eq_getElem?_getD,List.getElem?_eq_getElem h1,List.getElem?_eq_getElem h2] at this
theorem refL_eq {ws:List Int} (h0:∀ x ∈ ws,0 ≤ x) {L:Nat} (hL:1 ≤ L):refL ws L = packL ws L:=by
 have e:=sym_len ws
 unfold refL packL
 rw [e]
 by_cases g0:(ordL ws).length = 0
 · rw [if_pos g0,if_pos g0]
 · rw [if_neg g0,if_neg g0]
   by_cases g1:(ordL ws).length = 1
   · rw [if_pos g1,if_pos g1]
     have hs:symL ws = ordL ws:=by
      have h1:=ordL_perm ws
      match ho:ordL ws,hs:symL ws,g1,e with
      | [a],[b],_,_ =>
        rw [ho,hs] at h1
        have:a ∈ [b]:=h1.subset (by simp)
        simp at this
        rw [this]
      | _ :: _ :: _,_,g,_ => simp at g
      | [],_,g,_ => simp at g
      | [_],[],_,e => simp at e
      | [_],_ :: _ :: _,_,e => simp at e
     rw [hs]
   · rw [if_neg g1,if_neg g1]
     apply ext_getD
     · rw [outL_length,fill_length]
     · intro i hi
       rw [outL_length,List.length_replicate] at hi
       by_cases hw:0 < ws.getD i 0
       · have hm:i ∈ symL ws:=symK_mem hi hw
         obtain ⟨k,hk,hki⟩:=List.mem_iff_getElem.1 hm
         have hk':(symL ws)[k]? = some i:=by rw [List.getElem?_eq_getElem hk,hki]
         have hkd:(symL ws).getD k 0 = i:=by rw [List.getD_eq_getElem?_getD,hk'];rfl
         obtain ⟨p,hp,hpi⟩:=ord_has hi hw
         have hp':(ordL ws)[p]? = some i:=by rw [List.getElem?_eq_getElem hp,← hpi,List.getD_eq_getElem?_getD,List.getElem?_eq_getElem hp];rfl
         have h1:=outL_in (symL_nodup ws) hk ((levP (leavesP ws) (L - 1)).take (2 * (ordL ws).length - 2)) (List.replicate ws.length 0) (fun x hx => by rw [List.length_replicate];exact (symK_lt hx).1)
         rw [hkd,zeros_getD,Nat.zero_add,lev_cnt h0 hL hk' hp'] at h1
         have h2:=fill_in (ord_nodup ws) (z:=List.replicate ws.length 0) (c:=cntL (lwL ws) L) (fun s hs => by rw [List.length_replicate];exact (ordL_lt hs).1) (by rw [cntL_length,lwL_length]) p hp
         rw [hpi] at h2
         rw [h1,h2]
       · rw [outL_out (fun q hq he => hw (by
          have:(symL ws)[q] ∈ symL ws:=List.getElem_mem hq
          have h3:=(symK_lt this).2
          rw [List.getD_eq_getElem?_getD,List.getElem?_eq_getElem hq] at he
          have he:(symL ws)[q] = i:=he
          rwa [he] at h3)),fill_out (fun p hp he => hw (by
          have:=(List.of_mem_zip (show (p.1,p.2) ∈ (ordL ws).zip (cntL (lwL ws) L) from hp)).1
          have h3:=(ordL_lt this).2
          rwa [he] at h3))]
def natsV (l:List Nat):List Value:=l.map fun (x:Nat) => Value.int .i64 x
def piQ (x:QI):PI:=⟨x.w,x.v⟩
def QOK (w:World) (lo n:Nat) (lp:List PI) (A:Option Addr) (c:Nat):Prop :=
 ∃ l:List QI,RdQ w w.heap.size A l ∧ l.map piQ = lp ∧ (∀ x ∈ l,x.v.length = n ∧ ∃ A' c',x.V = .slice A' n c' ∧ Rd w w.heap.size A' (natsV x.v) ∧ ∀ a,A' = some a → lo ≤ a.block) ∧ l.length ≤ c ∧ ((A = none ∧ c = 0) ∨ ∃ b o,A = some ⟨b,o,none⟩ ∧ lo ≤ b)
section
variable {w w':World} {lo n:Nat} {lp:List PI} {A:Option Addr} {c:Nat}
theorem QOK.nil (w:World) (lo n:Nat):QOK w lo n [] none 0:=⟨[],Rd.nil_,rfl,fun x hx => by simp at hx,Nat.le_refl _,.inl ⟨rfl,rfl⟩⟩
theorem QOK.below (h:QOK w lo n lp A c) (hb:Below w.heap.size w w'):QOK w' lo n lp A c:=by
 obtain ⟨l,h1,h2,h3,h4,h5⟩:=h
 refine ⟨l,(Rd.below h1 hb).more hb.size,h2,fun x hx => ?_,h4,h5⟩
 obtain ⟨e,A',c',e2,r,hlo⟩:=h3 x hx
 exact ⟨e,A',c',e2,(r.below hb).more hb.size,hlo⟩
theorem QOK.at_ (h:QOK w lo n lp A c) {j:Nat} {x:PI} (hx:lp[j]? = some x) :
 ∃ b o A' c',A = some ⟨b,o,none⟩ ∧ b < w.heap.size ∧ lo ≤ b ∧ w.cell? ⟨b,o + j * 2,none⟩ = some (.int .u64 x.w) ∧ w.cell? ⟨b,o + j * 2 + 1,none⟩ = some (.slice A' n c') ∧ Rd w w.heap.size A' (natsV x.v) ∧ (∀ a,A' = some a → lo ≤ a.block) ∧ x.v.length = n:=by
 obtain ⟨l,h1,rfl,h3,_,h5⟩:=h
 rw [List.getElem?_map] at hx
 obtain ⟨q,hq,rfl⟩:=Option.map_eq_some_iff.1 hx
 obtain ⟨e,A',c',e2,r,hlo⟩:=h3 q (List.mem_of_getElem? hq)
 obtain ⟨b,o,e3,hb,c0,c1⟩:=h1.at_ hq
 refine ⟨b,o,A',c',e3,hb, ?_,c0,by rw [c1,e2],r,hlo,e⟩
 rcases h5 with ⟨e4,_⟩ | ⟨b4,o4,e4,hl4⟩
 · rw [e4] at e3;cases e3
 · rw [e4] at e3;cases e3;exact hl4
theorem QOK.cap (h:QOK w lo n lp A c):lp.length ≤ c:=by
 obtain ⟨l,_,rfl,_,h4,_⟩:=h
 rwa [List.length_map]
end
theorem insQ_map (x:QI) (l:List QI):(insQ x l).map piQ = insP (piQ x) (l.map piQ):=by
 induction l with
 | nil => rfl
 | cons y l ih =>
   rw [insQ,List.map_cons,insP]
   by_cases g:y.w ≤ x.w
   · rw [if_pos g,if_pos (show (piQ y).w ≤ (piQ x).w from g),List.map_cons,ih]
   · rw [if_neg g,if_neg (show ¬ (piQ y).w ≤ (piQ x).w from g)];rfl
theorem sortedQ_of {l:List QI} (h:SortedP (l.map piQ)):SortedQ l:=by
 unfold SortedP at h
 rw [List.pairwise_map] at h
 exact h
theorem put_ok (lo n:Nat) (lp:List PI) (A:Option Addr) (c:Nat) (xw:Nat) (xv:List Nat) (A':Option Addr) (c':Nat) (w:World) (h:QOK w lo n lp A c) (hlo:lo ≤ w.heap.size) (hA':∀ a,A' = some a → lo ≤ a.block) (hs:SortedP lp) (hlen:lp.length ≤ 1000) (hl:xv.length = n) (hr:Rd w w.heap.size A' (natsV xv)) :
 Calls Tryz.prog 150 #[.slice A lp.length c,.agg #[.int .u64 xw,.slice A' n c']] w fun e w' => ∃ A2 c2,e = .returned (.slice A2 (lp.length + 1) c2) ∧ QOK w' lo n (insP ⟨xw,xv⟩ lp) A2 c2 ∧ Below w.heap.size w w':=by
 obtain ⟨l,h1,rfl,h3,h4,h5⟩:=h
 have h0:=put_any A l c ⟨xw,.slice A' n c',xv⟩ w h1 (sortedQ_of hs) (by rwa [List.length_map] at hlen) (h5.imp id fun ⟨b,o,e,_⟩ => ⟨b,o,e⟩) h4 (by
  intro u hu
  obtain ⟨x,hx,hu⟩:=List.mem_flatMap.1 hu
  obtain ⟨_,A1,c1,e,_,_⟩:=h3 x hx
  simp only [qV,List.mem_cons,List.mem_nil_iff,or_false] at hu
  rcases hu with rfl | rfl
  · rfl
  · rw [e];rfl) rfl
 rw [List.length_map]
 refine Calls.mono h0 ?_
 rintro e w' ⟨A2,c2,rfl,hR,hc,hfr,hb⟩
 refine ⟨A2,c2,rfl,⟨insQ ⟨xw,.slice A' n c',xv⟩ l,hR,insQ_map _ _,fun x hx => ?_,by rw [insQ_length];exact hc, ?_⟩,hb⟩
 · rcases insQ_mem hx with rfl | hx
   · exact ⟨hl,A',c',rfl,(hr.below hb).more hb.size,hA'⟩
   · obtain ⟨e,A1,c1,e2,r,hlo1⟩:=h3 x hx
     exact ⟨e,A1,c1,e2,(r.below hb).more hb.size,hlo1⟩
 · have:0 < (insQ ⟨xw,.slice A' n c',xv⟩ l).length:=by rw [insQ_length];omega
   obtain ⟨b,o,e,_⟩:=hR.at_ (List.getElem?_eq_getElem this)
   exact .inr ⟨b,o,e,Nat.le_trans hlo (hfr _ e)⟩
theorem both_ok (wa wb n:Nat) (va vb:List Nat) (Aa Ab:Option Addr) (ca cb:Nat) (w:World) (hla:va.length = n) (hlb:vb.length = n) (ra:Rd w w.heap.size Aa (natsV va)) (rb:Rd w w.heap.size Ab (natsV vb)) (hn:n ≤ 1000) (hw:wa + wb ≤ 18446744073709551615)
 (hva:∀ x ∈ va,x ≤ 1048576) (hvb:∀ x ∈ vb,x ≤ 1048576) :
 Calls Tryz.prog 151 #[.agg #[.int .u64 wa,.slice Aa n ca],.agg #[.int .u64 wb,.slice Ab n cb]] w fun e w' => ∃ g,e = .returned (.agg #[.int .u64 (wa + wb:Nat),.slice (some ⟨g,0,none⟩) n n]) ∧ Rd w' w'.heap.size (some ⟨g,0,none⟩) (natsV (bothP ⟨wa,va⟩ ⟨wb,vb⟩).v) ∧ (bothP ⟨wa,va⟩ ⟨wb,vb⟩).v.length = n ∧ w.heap.size ≤ g ∧ Below w.heap.size w w':=by
 refine Calls.mono (both_any wa wb n va vb Aa Ab ca cb w hla hlb ra rb hn hw hva hvb) ?_
 rintro e w' ⟨g,rfl,hk,hg,hb⟩
 exact ⟨g,rfl,bkRdQ hk,by show (List.zipWith _ _ _).length = n;rw [List.length_zipWith];show min va.length vb.length = n;omega,hg,hb⟩
theorem insP_sorted {x:PI} {l:List PI} (h:SortedP l):SortedP (insP x l):=by
 induction l with
 | nil => exact List.pairwise_singleton _ _
 | cons y l ih =>
   have hs:=List.pairwise_cons.1 h
   rw [insP]
   split
   · rename_i hy
     refine List.pairwise_cons.2 ⟨fun z hz => ?_,ih hs.2⟩
     rcases insP_mem hz with rfl | hz
     · exact hy
     · exact hs.1 z hz
   · rename_i hy
     refine List.pairwise_cons.2 ⟨fun z hz => ?_,h⟩
     rcases List.mem_cons.1 hz with rfl | hz
     · omega
     · have:=hs.1 z hz;omega
theorem insP_length (x:PI) (l:List PI):(insP x l).length = l.length + 1:=by
 induction l with
 | nil => rfl
 | cons y l ih => rw [insP];split <;> simp [ih]
def putsP (lv ps:List PI):List PI:=ps.foldl (fun l x => insP x l) lv
theorem putsP_snoc (lv ps:List PI) (x:PI):putsP lv (ps ++ [x]) = insP x (putsP lv ps):=by unfold putsP;rw [List.foldl_append];rfl
theorem putsP_length (lv ps:List PI):(putsP lv ps).length = lv.length + ps.length:=by
 unfold putsP
 induction ps generalizing lv with
 | nil => rfl
 | cons x ps ih => rw [List.foldl_cons,ih,insP_length,List.length_cons];omega
theorem putsP_sorted {lv ps:List PI} (h:SortedP lv):SortedP (putsP lv ps):=by
 unfold putsP
 induction ps generalizing lv with
 | nil => exact h
 | cons x ps ih => exact ih (insP_sorted h)
theorem pairsP_get:∀ (q:Nat) {l:List PI} {a b:PI},l[2 * q]? = some a → l[2 * q + 1]? = some b → (pairsP l)[q]? = some (bothP a b):=by
 intro q
 induction q with
 | zero =>
   intro l a b h1 h2
   match l,h1,h2 with
   | [],h1,_ => simp at h1
   | [_],_,h2 => simp at h2
   | x :: y :: r,h1,h2 =>
     simp at h1 h2
     rw [pairsP,h1,h2];rfl
 | succ q ih =>
   intro l a b h1 h2
   match l,h1,h2 with
   | [],h1,_ => simp at h1
   | [_],h1,_ => rw [List.getElem?_eq_none (by simp;omega)] at h1;cases h1
   | x :: y :: r,h1,h2 =>
     rw [pairsP,List.getElem?_cons_succ]
     refine ih ?_ ?_
     · rw [← h1,show 2 * (q + 1) = 2 * q + 1 + 1 by omega,List.getElem?_cons_succ,List.getElem?_cons_succ]
     · rw [← h2,show 2 * (q + 1) + 1 = 2 * q + 1 + 1 + 1 by omega,List.getElem?_cons_succ,List.getElem?_cons_succ]
theorem pairsP_length:∀ (n:Nat) {l:List PI},l.length ≤ n → (pairsP l).length = l.length / 2:=by
 intro n
 induction n with
 | zero => intro l h;have:l = []:=List.eq_nil_of_length_eq_zero (by omega);subst this;rfl
 | succ n ih =>
   intro l h
   match l,h with
   | [],_ => rfl
   | [_],_ => simp [pairsP]
   | a :: b :: r,h => rw [pairsP,List.length_cons,ih (l:=r) (by simp at h;omega)];simp only [List.length_cons];omega
def leavesK (ws:List Int) (k:Nat):List PI:=putsP [] (((symL ws).take k).map (itemS ws))
theorem leavesK_succ {ws:List Int} {k s:Nat} (h:(symL ws)[k]? = some s):leavesK ws (k + 1) = insP (itemS ws s) (leavesK ws k):=by
 unfold leavesK
 rw [List.take_add_one,h,List.map_append]
 exact putsP_snoc _ _ _
theorem leavesK_all (ws:List Int):leavesK ws (symL ws).length = leavesP ws:=by
 unfold leavesK leavesP putsP
 rw [List.take_of_length_le (Nat.le_refl _),List.foldl_map]
theorem leavesK_length {ws:List Int} {k:Nat} (h:k ≤ (symL ws).length):(leavesK ws k).length = k:=by
 unfold leavesK
 rw [putsP_length,List.length_map,List.length_take];simp;omega
theorem leavesK_sorted (ws:List Int) (k:Nat):SortedP (leavesK ws k):=putsP_sorted List.Pairwise.nil
theorem unit_row {ws:List Int} {k s:Nat} (h:(symL ws)[k]? = some s):(List.replicate (symL ws).length 0).set k 1 = (itemS ws s).v:=by
 show _ = (symL ws).map _
 apply List.ext_getElem
 · simp
 · intro i h1 h2
   have hk:=(List.getElem?_eq_some_iff.1 h)
   obtain ⟨hk,hs⟩:=hk
   rw [List.getElem_map,List.getElem_set]
   by_cases e:k = i
   · subst e
     rw [if_pos rfl,if_pos hs]
   · rw [if_neg e,if_neg (fun he => e ((List.getElem_inj (symL_nodup ws)).1 (hs.trans he.symm))),List.getElem_replicate]
theorem lev_facts {ws:List Int} (h0:∀ x ∈ ws,0 ≤ x) (hm:∀ x ∈ ws,x ≤ 1099511627776) {j:Nat} (hj:j ≤ 14) :
 SortedP (levP (leavesP ws) j) ∧ (levP (leavesP ws) j).length ≤ 2 * (symL ws).length ∧ ∀ x ∈ levP (leavesP ws) j,x.w ≤ 36028797018963968 ∧ x.v.length = (symL ws).length ∧ ∀ y ∈ x.v,y ≤ 1048576:=by
 have hw:=lev_w (lw:=lwL ws) (lwL_sorted ws) (leavesP_w h0)
 refine ⟨lev_sorted (lwL_sorted ws) (leavesP_w h0) j, ?_,fun x hx => ⟨?_,lev_len (leavesP_len h0) j x hx,fun y hy => ?_⟩⟩
 · rw [len_wsP (hw j),sym_len,← lwL_length];exact lvlL_length _ _
 · have h1:x.w ∈ wsI (lvlL (lwL ws) j):=by rw [← hw j];exact List.mem_map.2 ⟨x,hx,rfl⟩
   obtain ⟨z,hz,hzx⟩:=List.mem_map.1 h1
   have h2:=lvlL_w (lw:=lwL ws) (B:=1099511627776) (fun v hv => by
    obtain ⟨i,hi,rfl⟩:=List.mem_map.1 hv
    have h3:=(ordL_lt hi).1
    have h4:=hm (ws.getD i 0) (by rw [List.getD_eq_getElem?_getD,List.getElem?_eq_getElem h3];exact List.getElem_mem _)
    omega) j z hz
   have h3:2 ^ (j + 1) ≤ 2 ^ 15:=Nat.pow_le_pow_right (by omega) (by omega)
   have h4:=Nat.mul_le_mul_left 1099511627776 h3
   rw [← hzx];omega
 · obtain ⟨k,hk,rfl⟩:=List.mem_iff_getElem.1 hy
   have h1:=lev_le (leavesP_len h0) (leavesP_le h0) j x hx k
   unfold atV at h1
   rw [List.getD_eq_getElem?_getD,List.getElem?_eq_getElem hk] at h1
   have h3:2 ^ j ≤ 2 ^ 14:=Nat.pow_le_pow_right (by omega) hj
   have h1:x.v[k] ≤ 2 ^ j:=h1
   omega
theorem puts_next (lv:List PI) (j:Nat):putsP lv (pairsP (levP lv j)) = levP lv (j + 1):=rfl
end Go.Proofs.YtcfnjpokfodmoaaGreatDoor
