/- The document's lengths, plainly: leaves and packages, each with how often each leaf is in it. No program in sight. -/
import Derived.Test.YtggffiikfelbjaaPFull
namespace Go.Proofs.Ytggffiikfelbjaa
open Go.RowKit

structure PI where
  w : Nat
  v : List Nat
def insP (x : PI) : List PI → List PI
  | [] => [x]
  | y :: l => if y.w ≤ x.w then y :: insP x l else x :: y :: l
def SortedP (l : List PI) : Prop := l.Pairwise fun a b => a.w ≤ b.w
def mrgA (l : PI) (f : List PI → List PI) : List PI → List PI
  | [] => l :: f []
  | p :: ps => if l.w ≤ p.w then l :: f (p :: ps) else p :: mrgA l f ps
def mrgP : List PI → List PI → List PI
  | [], ps => ps
  | l :: ls, ps => mrgA l (mrgP ls) ps
theorem mrgP_nil (ls : List PI) : mrgP ls [] = ls := by
  induction ls with
  | nil => rfl
  | cons l ls ih => rw [mrgP, mrgA, ih]
theorem mrgP_le {l p : PI} {ls ps : List PI} (h : l.w ≤ p.w) : mrgP (l :: ls) (p :: ps) = l :: mrgP ls (p :: ps) := by rw [mrgP, mrgA, if_pos h]
theorem mrgP_gt {l p : PI} {ls ps : List PI} (h : ¬ l.w ≤ p.w) : mrgP (l :: ls) (p :: ps) = p :: mrgP (l :: ls) ps := by rw [mrgP, mrgA, if_neg h, mrgP]
theorem ins_mrg {p : PI} : ∀ {ls ps : List PI}, (∀ q ∈ ps, p.w ≤ q.w) → mrgP (insP p ls) ps = mrgP ls (p :: ps) := by
  intro ls
  induction ls with
  | nil =>
    intro ps h
    cases ps with
    | nil => rfl
    | cons q ps => rw [insP, mrgP_le (h q (by simp))]; rfl
  | cons y ls ih =>
    intro ps h
    rw [insP]
    by_cases g : y.w ≤ p.w
    · rw [if_pos g, mrgP_le g]
      cases ps with
      | nil => rw [mrgP_nil, ← ih (ps := []) (by simp), mrgP_nil]
      | cons q ps => rw [mrgP_le (Nat.le_trans g (h q (by simp))), ih h]
    · rw [if_neg g, mrgP_gt g]
      cases ps with
      | nil => rw [mrgP_nil, mrgP_nil]
      | cons q ps => rw [mrgP_le (h q (by simp))]
theorem fold_ins : ∀ {ps ls : List PI}, SortedP ps → ps.foldl (fun l x => insP x l) ls = mrgP ls ps := by
  intro ps
  induction ps with
  | nil => intro ls _; rw [mrgP_nil]; rfl
  | cons p ps ih =>
    intro ls h
    have h' := List.pairwise_cons.1 h
    rw [List.foldl_cons, ih h'.2, ins_mrg h'.1]
def bothP (a b : PI) : PI := ⟨a.w + b.w, List.zipWith (fun x y => x + y) a.v b.v⟩
def pairsP : List PI → List PI
  | a :: b :: r => bothP a b :: pairsP r
  | _ => []
def levP (lv : List PI) : Nat → List PI
  | 0 => lv
  | j + 1 => (pairsP (levP lv j)).foldl (fun l x => insP x l) lv
def wsP (l : List PI) : List Nat := l.map fun x => x.w
def wsI (l : List It) : List Nat := l.map fun x => x.w
theorem sortedP_of {l : List PI} {l' : List It} (h : wsP l = wsI l') (hs : SortedW l') : SortedP l := by
  have h1 : (wsI l').Pairwise fun a b => a ≤ b := List.pairwise_map.2 hs
  rw [← h] at h1
  exact List.pairwise_map.1 h1
theorem pairs_w : ∀ (n i : Nat) {l : List PI} {l' : List It}, l.length ≤ n → wsP l = wsI l' → wsP (pairsP l) = wsI (pkgs i l') := by
  intro n
  induction n with
  | zero =>
    intro i l l' h e
    have : l = [] := List.eq_nil_of_length_eq_zero (by omega)
    subst this
    cases l' with
    | nil => rfl
    | cons _ _ => simp [wsP, wsI] at e
  | succ n ih =>
    intro i l l' h e
    match l, l', h, e with
    | [], [], _, _ => rfl
    | [], _ :: _, _, e => simp [wsP, wsI] at e
    | [_], [], _, e => simp [wsP, wsI] at e
    | [_], [_], _, _ => simp [pairsP, pkgs, wsP, wsI]
    | [_], _ :: _ :: _, _, e => simp [wsP, wsI] at e
    | _ :: _ :: _, [], _, e => simp [wsP, wsI] at e
    | _ :: _ :: _, [_], _, e => simp [wsP, wsI] at e
    | a :: b :: r, a' :: b' :: r', h, e =>
      simp only [wsP, wsI, List.map_cons, List.cons.injEq] at e
      obtain ⟨e1, e2, e3⟩ := e
      have := ih (i + 2) (l := r) (l' := r') (by simp at h; omega) e3
      rw [pairsP, pkgs]
      show _ :: wsP (pairsP r) = _ :: wsI (pkgs (i + 2) r')
      rw [this]
      show (a.w + b.w) :: _ = (a'.w + b'.w) :: _
      rw [e1, e2]
theorem mrg_same : ∀ {ls : List PI} {ls' : List It} {ps : List PI} {ps' : List It}, wsP ls = wsI ls' → wsP ps = wsI ps' → wsP (mrgP ls ps) = wsI (mrg ls' ps') := by
  intro ls
  induction ls with
  | nil =>
    intro ls' ps ps' h h2
    cases ls' with
    | nil => exact h2
    | cons _ _ => simp [wsP, wsI] at h
  | cons l ls ih =>
    intro ls' ps
    cases ls' with
    | nil => intro ps' h; simp [wsP, wsI] at h
    | cons l' ls' =>
      induction ps with
      | nil =>
        intro ps' h h2
        cases ps' with
        | nil => rw [mrgP_nil, mrg_nil]; exact h
        | cons _ _ => simp [wsP, wsI] at h2
      | cons p ps ih2 =>
        intro ps' h h2
        cases ps' with
        | nil => simp [wsP, wsI] at h2
        | cons p' ps' =>
          have h' := h
          have h2' := h2
          simp only [wsP, wsI, List.map_cons, List.cons.injEq] at h' h2'
          by_cases g : l.w ≤ p.w
          · rw [mrgP_le g, mrg_le (by omega)]
            show l.w :: wsP _ = l'.w :: wsI _
            rw [h'.1, ih h'.2 h2]
          · rw [mrgP_gt g, mrg_gt (by omega)]
            show p.w :: wsP _ = p'.w :: wsI _
            rw [h2'.1, ih2 h h2'.2]
def sumF (f : PI → Nat) (l : List PI) : Nat := (l.map f).sum
theorem sumF_cons (f : PI → Nat) (x : PI) (l : List PI) : sumF f (x :: l) = f x + sumF f l := by simp [sumF]
theorem len_wsP {l : List PI} {l' : List It} (h : wsP l = wsI l') : l.length = l'.length := by
  have := congrArg List.length h
  simpa [wsP, wsI] using this
theorem mrg_sums (f : PI → Nat) : ∀ {ls : List PI} {ls' : List It} {ps : List PI} {ps' : List It}, wsP ls = wsI ls' → wsP ps = wsI ps' → (∀ x ∈ ls', 0 ≤ x.leaf) → (∀ x ∈ ps', x.leaf < 0) →
    ∀ m, sumF f ((mrgP ls ps).take m) = sumF f (ls.take (lfs ((mrg ls' ps').take m)).length) + sumF f (ps.take (pkN ((mrg ls' ps').take m))) := by
  intro ls
  induction ls with
  | nil =>
    intro ls' ps ps' h h2 h3 h4 m
    have e := len_wsP h2
    cases ls' with
    | cons _ _ => simp [wsP, wsI] at h
    | nil =>
      have e2 : pkN (ps'.take m) = (ps'.take m).length := by
        unfold pkN
        rw [List.filter_eq_self.2 (fun x hx => decide_eq_true (h4 x (List.mem_of_mem_take hx)))]
      show sumF f (ps.take m) = sumF f (List.take _ []) + sumF f (ps.take (pkN (ps'.take m)))
      rw [e2, List.length_take, ← e, List.take_nil]
      rcases Nat.le_total m ps.length with g | g
      · rw [Nat.min_eq_left g]; simp [sumF]
      · rw [Nat.min_eq_right g, List.take_of_length_le g, List.take_of_length_le (Nat.le_refl _)]; simp [sumF]
  | cons l ls ih =>
    intro ls' ps
    cases ls' with
    | nil => intro ps' h; simp [wsP, wsI] at h
    | cons l' ls' =>
      induction ps with
      | nil =>
        intro ps' h h2 h3 h4 m
        cases ps' with
        | cons _ _ => simp [wsP, wsI] at h2
        | nil =>
          have e := len_wsP h
          have e2 : lfs ((l' :: ls').take m) = (l' :: ls').take m := List.filter_eq_self.2 (fun x hx => decide_eq_true (h3 x (List.mem_of_mem_take hx)))
          rw [mrgP_nil, mrg_nil, e2, List.length_take, ← e, List.take_nil]
          rcases Nat.le_total m (l :: ls).length with g | g
          · rw [Nat.min_eq_left g]; simp [sumF]
          · rw [Nat.min_eq_right g, List.take_of_length_le g, List.take_of_length_le (Nat.le_refl _)]; simp [sumF]
      | cons p ps ih2 =>
        intro ps' h h2 h3 h4 m
        cases ps' with
        | nil => simp [wsP, wsI] at h2
        | cons p' ps' =>
          have h' := h
          have h2' := h2
          simp only [wsP, wsI, List.map_cons, List.cons.injEq] at h' h2'
          have hl := h3 l' (by simp)
          have hp := h4 p' (by simp)
          cases m with
          | zero => simp [sumF, lfs, pkN]
          | succ m =>
            by_cases g : l.w ≤ p.w
            · rw [mrgP_le g, mrg_le (by omega), List.take_succ_cons, List.take_succ_cons, sumF_cons, ih h'.2 h2 (fun x hx => h3 x (List.mem_cons_of_mem _ hx)) h4, lfs_cons, if_pos hl, pkN_cons, if_neg (by omega), Nat.zero_add, List.length_cons, List.take_succ_cons, sumF_cons]
              omega
            · rw [mrgP_gt g, mrg_gt (by omega), List.take_succ_cons, List.take_succ_cons, sumF_cons, ih2 h h2'.2 h3 (fun x hx => h4 x (List.mem_cons_of_mem _ hx)), lfs_cons, if_neg (by omega), pkN_cons, if_pos hp, Nat.add_comm 1, List.take_succ_cons, sumF_cons]
              omega
/-- How often leaf k is in an item. -/
def atV (k : Nat) (x : PI) : Nat := x.v.getD k 0
theorem zip_getD (k : Nat) : ∀ {a b : List Nat}, a.length = b.length → (List.zipWith (fun x y => x + y) a b).getD k 0 = a.getD k 0 + b.getD k 0 := by
  intro a b h
  simp only [List.getD_eq_getElem?_getD, List.getElem?_zipWith]
  rcases Nat.lt_or_ge k a.length with g | g
  · rw [List.getElem?_eq_getElem g, List.getElem?_eq_getElem (by omega)]; rfl
  · rw [List.getElem?_eq_none g, List.getElem?_eq_none (by omega)]; rfl
theorem pairs_sums {n : Nat} (k : Nat) : ∀ (b : Nat) {l : List PI}, 2 * b ≤ l.length → (∀ x ∈ l, x.v.length = n) → sumF (atV k) ((pairsP l).take b) = sumF (atV k) (l.take (2 * b)) := by
  intro b
  induction b with
  | zero => intro l _ _; simp [sumF]
  | succ b ih =>
    intro l h hn
    match l, h, hn with
    | [], h, _ => simp at h
    | [_], h, _ => simp at h; omega
    | x :: y :: r, h, hn =>
      rw [pairsP, List.take_succ_cons, sumF_cons, ih (by simp at h; omega) (fun z hz => hn z (by simp [hz])), show 2 * (b + 1) = 2 * b + 1 + 1 by omega, List.take_succ_cons, List.take_succ_cons, sumF_cons, sumF_cons]
      show (List.zipWith _ _ _).getD k 0 + _ = _
      rw [zip_getD k (by rw [hn x (by simp), hn y (by simp)])]
      show _ = x.v.getD k 0 + (y.v.getD k 0 + _)
      omega
theorem insP_mem {x z : PI} {l : List PI} (h : z ∈ insP x l) : z = x ∨ z ∈ l := by
  induction l with
  | nil => simp [insP] at h; exact .inl h
  | cons y l ih =>
    rw [insP] at h
    split at h
    · rcases List.mem_cons.1 h with rfl | h
      · exact .inr (by simp)
      · rcases ih h with h | h
        · exact .inl h
        · exact .inr (List.mem_cons_of_mem _ h)
    · rcases List.mem_cons.1 h with rfl | h
      · exact .inl rfl
      · exact .inr h
theorem foldl_mem {z : PI} : ∀ {ps ls : List PI}, z ∈ ps.foldl (fun l x => insP x l) ls → z ∈ ls ∨ z ∈ ps := by
  intro ps
  induction ps with
  | nil => intro ls h; exact .inl h
  | cons p ps ih =>
    intro ls h
    rw [List.foldl_cons] at h
    rcases ih h with h | h
    · rcases insP_mem h with rfl | h
      · exact .inr (by simp)
      · exact .inl h
    · exact .inr (List.mem_cons_of_mem _ h)
theorem pairs_all {Q R : PI → Prop} (hQR : ∀ a b, Q a → Q b → R (bothP a b)) : ∀ (n : Nat) {l : List PI}, l.length ≤ n → (∀ x ∈ l, Q x) → ∀ x ∈ pairsP l, R x := by
  intro n
  induction n with
  | zero => intro l h _; have : l = [] := List.eq_nil_of_length_eq_zero (by omega); subst this; intro x hx; simp [pairsP] at hx
  | succ n ih =>
    intro l h hq
    match l, h, hq with
    | [], _, _ => intro x hx; simp [pairsP] at hx
    | [_], _, _ => intro x hx; simp [pairsP] at hx
    | a :: b :: r, h, hq =>
      intro x hx
      rw [pairsP] at hx
      rcases List.mem_cons.1 hx with rfl | hx
      · exact hQR _ _ (hq a (by simp)) (hq b (by simp))
      · exact ih (l := r) (by simp at h; omega) (fun y hy => hq y (by simp [hy])) x hx
theorem lev_len {n : Nat} {lv : List PI} (h : ∀ x ∈ lv, x.v.length = n) : ∀ j, ∀ x ∈ levP lv j, x.v.length = n := by
  intro j
  induction j with
  | zero => exact h
  | succ j ih =>
    intro x hx
    rcases foldl_mem hx with hx | hx
    · exact h x hx
    · exact pairs_all (Q := fun x => x.v.length = n) (R := fun x => x.v.length = n) (fun a b ha hb => by show (List.zipWith _ _ _).length = n; rw [List.length_zipWith, ha, hb]; omega) _ (Nat.le_refl _) ih x hx
theorem lev_le {n : Nat} {lv : List PI} (h : ∀ x ∈ lv, x.v.length = n) (h1 : ∀ x ∈ lv, ∀ k, atV k x ≤ 1) : ∀ j, ∀ x ∈ levP lv j, ∀ k, atV k x ≤ 2 ^ j := by
  intro j
  induction j with
  | zero => exact h1
  | succ j ih =>
    intro x hx
    rcases foldl_mem hx with hx | hx
    · intro k
      have := h1 x hx k
      have : 1 ≤ 2 ^ (j + 1) := Nat.one_le_two_pow
      omega
    · refine pairs_all (Q := fun x => x.v.length = n ∧ ∀ k, atV k x ≤ 2 ^ j) (R := fun x => ∀ k, atV k x ≤ 2 ^ (j + 1)) (fun a b ha hb k => ?_) _ (Nat.le_refl _) (fun x hx => ⟨lev_len h j x hx, ih x hx⟩) x hx
      show (List.zipWith _ _ _).getD k 0 ≤ _
      rw [zip_getD k (by rw [ha.1, hb.1]), Nat.pow_succ]
      have h1 := ha.2 k
      have h2 := hb.2 k
      unfold atV at h1 h2
      omega
theorem leafIts_wsI (k : Nat) (l : List Nat) : wsI (leafIts k l) = l := by
  induction l generalizing k with
  | nil => rfl
  | cons w l ih => rw [leafIts]; show w :: wsI _ = _; rw [ih]
section
variable {lw : List Nat} {lv : List PI}
theorem lev_w (hs : lw.Pairwise fun a b => a ≤ b) (h0 : wsP lv = lw) : ∀ j, wsP (levP lv j) = wsI (lvlL lw j) := by
  intro j
  induction j with
  | zero =>
    show wsP lv = wsI (nxtL lw [])
    unfold nxtL
    rw [show pkgs 0 [] = [] from rfl, mrg_nil, leafIts_wsI, h0]
  | succ j ih =>
    have hp := pairs_w (levP lv j).length 0 (Nat.le_refl _) ih
    have hsp : SortedP (pairsP (levP lv j)) := sortedP_of hp (pkgs_sorted _ _ _ (Nat.le_refl _) (lvlL_sorted hs j))
    show wsP ((pairsP (levP lv j)).foldl (fun l x => insP x l) lv) = wsI (nxtL lw (lvlL lw j))
    rw [fold_ins hsp]
    exact mrg_same (by rw [leafIts_wsI, h0]) hp
theorem lev_sorted (hs : lw.Pairwise fun a b => a ≤ b) (h0 : wsP lv = lw) (j : Nat) : SortedP (levP lv j) := sortedP_of (lev_w hs h0 j) (lvlL_sorted hs j)
theorem lev_length (hs : lw.Pairwise fun a b => a ≤ b) (h0 : wsP lv = lw) (j : Nat) : (levP lv j).length = (lvlL lw j).length := len_wsP (lev_w hs h0 j)
theorem lev_step (hs : lw.Pairwise fun a b => a ≤ b) (h0 : wsP lv = lw) {n : Nat} (hn : ∀ x ∈ lv, x.v.length = n) (j m k : Nat) :
    sumF (atV k) ((levP lv (j + 1)).take m) = sumF (atV k) (lv.take (lfC lw (lvlL lw j) m)) + sumF (atV k) ((levP lv j).take (2 * pkN ((lvlL lw (j + 1)).take m))) := by
  have hp := pairs_w (levP lv j).length 0 (Nat.le_refl _) (lev_w hs h0 j)
  have hsp : SortedP (pairsP (levP lv j)) := sortedP_of hp (pkgs_sorted _ _ _ (Nat.le_refl _) (lvlL_sorted hs j))
  have h1 := mrg_sums (atV k) (ls := lv) (ls' := leafIts 0 lw) (by rw [leafIts_wsI, h0]) hp (fun x hx => by have := leafIts_leaf hx; omega) (fun x hx => by have := pkgs_leaf _ _ _ (Nat.le_refl _) hx; omega) m
  show sumF _ (((pairsP (levP lv j)).foldl (fun l x => insP x l) lv).take m) = _
  rw [fold_ins hsp, h1]
  have h2 := (first_pks lw (lvlL lw j) m).2
  congr 1
  exact pairs_sums k _ (by rw [lev_length hs h0]; show 2 * pkN ((nxtL lw (lvlL lw j)).take m) ≤ _; omega) (lev_len hn j)
theorem lev_base (h0 : wsP lv = lw) (m k : Nat) : sumF (atV k) ((levP lv 0).take m) = sumF (atV k) (lv.take (lfC lw [] m)) := by
  have e : nxtL lw [] = leafIts 0 lw := by unfold nxtL; rw [show pkgs 0 [] = [] from rfl, mrg_nil]
  have e2 : lfC lw [] m = min m lw.length := by
    unfold lfC
    rw [e, show lfs ((leafIts 0 lw).take m) = (leafIts 0 lw).take m from List.filter_eq_self.2 (fun x hx => decide_eq_true (by have := leafIts_leaf (List.mem_of_mem_take hx); omega)), List.length_take, leafIts_length]
  have e3 : lv.length = lw.length := by rw [← h0]; simp [wsP]
  show sumF _ (lv.take m) = _
  rw [e2, ← e3]
  rcases Nat.le_total m lv.length with g | g
  · rw [Nat.min_eq_left g]
  · rw [Nat.min_eq_right g, List.take_of_length_le g, List.take_of_length_le (Nat.le_refl _)]
/-- How often a leaf is in the first ones of the last level: so many levels have it among their own first ones. -/
theorem lev_total (hs : lw.Pairwise fun a b => a ≤ b) (h0 : wsP lv = lw) {n : Nat} (hn : ∀ x ∈ lv, x.v.length = n) {L : Nat} (k : Nat) : ∀ t, t < L →
    sumF (atV k) ((levP lv (L - 1)).take (2 * lw.length - 2)) = SS (fun t => sumF (atV k) (lv.take (Ck lw L t))) t + sumF (atV k) ((levP lv (L - 1 - t)).take (Mk lw L t)) := by
  intro t
  induction t with
  | zero => intro _; show _ = 0 + _; rw [Nat.zero_add]; rfl
  | succ t ih =>
    intro ht
    obtain ⟨j, hj⟩ : ∃ j, L - 1 - t = j + 1 := ⟨L - 1 - t - 1, by omega⟩
    have e : L - 1 - (t + 1) = j := by omega
    rw [ih (by omega), hj, lev_step hs h0 hn, e, Mk_succ (by omega), hj]
    have ec : Ck lw L t = lfC lw (lvlL lw j) (Mk lw L t) := by unfold Ck; rw [if_pos (show t < L by omega), hj]; rfl
    show _ = (SS (fun t => sumF (atV k) (lv.take (Ck lw L t))) t + sumF (atV k) (lv.take (Ck lw L t))) + _
    rw [ec]
    omega
theorem lev_all (hs : lw.Pairwise fun a b => a ≤ b) (h0 : wsP lv = lw) {n : Nat} (hn : ∀ x ∈ lv, x.v.length = n) {L : Nat} (hL : 1 ≤ L) (k : Nat) :
    sumF (atV k) ((levP lv (L - 1)).take (2 * lw.length - 2)) = SS (fun t => sumF (atV k) (lv.take (Ck lw L t))) L := by
  obtain ⟨j, rfl⟩ : ∃ j, L = j + 1 := ⟨L - 1, by omega⟩
  have h := lev_total hs h0 hn (L := j + 1) k j (by omega)
  rw [h, show j + 1 - 1 - j = 0 by omega, lev_base h0]
  have ec : Ck lw (j + 1) j = lfC lw [] (Mk lw (j + 1) j) := by unfold Ck; rw [if_pos (show j < j + 1 by omega), show j + 1 - 1 - j = 0 by omega]; rfl
  show _ = SS (fun t => sumF (atV k) (lv.take (Ck lw (j + 1) t))) j + sumF (atV k) (lv.take (Ck lw (j + 1) j))
  rw [ec]
end
#print axioms lev_all
end Go.Proofs.Ytggffiikfelbjaa
