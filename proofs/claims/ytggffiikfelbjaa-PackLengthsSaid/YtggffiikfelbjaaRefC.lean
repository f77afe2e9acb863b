/- Levels of the document's, as they lie in memory: put and both on them. -/
import Derived.Test.YtggffiikfelbjaaRefBoth
import Derived.Test.YtggffiikfelbjaaRefOrd
namespace Go.Proofs.Ytggffiikfelbjaa
open Go.RowKit

def natsV (l : List Nat) : List Value := l.map fun (x : Nat) => Value.int .i64 x
def piQ (x : QI) : PI := ⟨x.w, x.v⟩
/-- A level: its items, each with its row of n numbers. -/
def QOK (w : World) (lo n : Nat) (lp : List PI) (A : Option Addr) (c : Nat) : Prop :=
  ∃ l : List QI, RdQ w w.heap.size A l ∧ l.map piQ = lp ∧ (∀ x ∈ l, x.v.length = n ∧ ∃ A' c', x.V = .slice A' n c' ∧ Rd w w.heap.size A' (natsV x.v) ∧ ∀ a, A' = some a → lo ≤ a.block) ∧ l.length ≤ c ∧ ((A = none ∧ c = 0) ∨ ∃ b o, A = some ⟨b, o, none⟩ ∧ lo ≤ b)
section
variable {w w' : World} {lo n : Nat} {lp : List PI} {A : Option Addr} {c : Nat}
theorem QOK.nil (w : World) (lo n : Nat) : QOK w lo n [] none 0 := ⟨[], Rd.nil_, rfl, fun x hx => by simp at hx, Nat.le_refl _, .inl ⟨rfl, rfl⟩⟩
theorem QOK.below (h : QOK w lo n lp A c) (hb : Below w.heap.size w w') : QOK w' lo n lp A c := by
  obtain ⟨l, h1, h2, h3, h4, h5⟩ := h
  refine ⟨l, (Rd.below h1 hb).more hb.size, h2, fun x hx => ?_, h4, h5⟩
  obtain ⟨e, A', c', e2, r, hlo⟩ := h3 x hx
  exact ⟨e, A', c', e2, (r.below hb).more hb.size, hlo⟩
theorem QOK.at_ (h : QOK w lo n lp A c) {j : Nat} {x : PI} (hx : lp[j]? = some x) :
    ∃ b o A' c', A = some ⟨b, o, none⟩ ∧ b < w.heap.size ∧ lo ≤ b ∧ w.cell? ⟨b, o + j * 2, none⟩ = some (.int .u64 x.w) ∧ w.cell? ⟨b, o + j * 2 + 1, none⟩ = some (.slice A' n c') ∧ Rd w w.heap.size A' (natsV x.v) ∧ (∀ a, A' = some a → lo ≤ a.block) ∧ x.v.length = n := by
  obtain ⟨l, h1, rfl, h3, _, h5⟩ := h
  rw [List.getElem?_map] at hx
  obtain ⟨q, hq, rfl⟩ := Option.map_eq_some_iff.1 hx
  obtain ⟨e, A', c', e2, r, hlo⟩ := h3 q (List.mem_of_getElem? hq)
  obtain ⟨b, o, e3, hb, c0, c1⟩ := h1.at_ hq
  refine ⟨b, o, A', c', e3, hb, ?_, c0, by rw [c1, e2], r, hlo, e⟩
  rcases h5 with ⟨e4, _⟩ | ⟨b4, o4, e4, hl4⟩
  · rw [e4] at e3; cases e3
  · rw [e4] at e3; cases e3; exact hl4
theorem QOK.cap (h : QOK w lo n lp A c) : lp.length ≤ c := by
  obtain ⟨l, _, rfl, _, h4, _⟩ := h
  rwa [List.length_map]
end
theorem insQ_map (x : QI) (l : List QI) : (insQ x l).map piQ = insP (piQ x) (l.map piQ) := by
  induction l with
  | nil => rfl
  | cons y l ih =>
    rw [insQ, List.map_cons, insP]
    by_cases g : y.w ≤ x.w
    · rw [if_pos g, if_pos (show (piQ y).w ≤ (piQ x).w from g), List.map_cons, ih]
    · rw [if_neg g, if_neg (show ¬ (piQ y).w ≤ (piQ x).w from g)]; rfl
theorem sortedQ_of {l : List QI} (h : SortedP (l.map piQ)) : SortedQ l := by
  unfold SortedP at h
  rw [List.pairwise_map] at h
  exact h
theorem put_ok (lo n : Nat) (lp : List PI) (A : Option Addr) (c : Nat) (xw : Nat) (xv : List Nat) (A' : Option Addr) (c' : Nat) (w : World) (h : QOK w lo n lp A c) (hlo : lo ≤ w.heap.size) (hA' : ∀ a, A' = some a → lo ≤ a.block) (hs : SortedP lp) (hlen : lp.length ≤ 1000) (hl : xv.length = n) (hr : Rd w w.heap.size A' (natsV xv)) :
    Calls Try.prog 56 #[.slice A lp.length c, .agg #[.int .u64 xw, .slice A' n c']] w fun e w' => ∃ A2 c2, e = .returned (.slice A2 (lp.length + 1) c2) ∧ QOK w' lo n (insP ⟨xw, xv⟩ lp) A2 c2 ∧ Below w.heap.size w w' := by
  obtain ⟨l, h1, rfl, h3, h4, h5⟩ := h
  have h0 := put_any A l c ⟨xw, .slice A' n c', xv⟩ w h1 (sortedQ_of hs) (by rwa [List.length_map] at hlen) (h5.imp id fun ⟨b, o, e, _⟩ => ⟨b, o, e⟩) h4 (by
    intro u hu
    obtain ⟨x, hx, hu⟩ := List.mem_flatMap.1 hu
    obtain ⟨_, A1, c1, e, _, _⟩ := h3 x hx
    simp only [qV, List.mem_cons, List.mem_nil_iff, or_false] at hu
    rcases hu with rfl | rfl
    · rfl
    · rw [e]; rfl) rfl
  rw [List.length_map]
  refine Calls.mono h0 ?_
  rintro e w' ⟨A2, c2, rfl, hR, hc, hfr, hb⟩
  refine ⟨A2, c2, rfl, ⟨insQ ⟨xw, .slice A' n c', xv⟩ l, hR, insQ_map _ _, fun x hx => ?_, by rw [insQ_length]; exact hc, ?_⟩, hb⟩
  · rcases insQ_mem hx with rfl | hx
    · exact ⟨hl, A', c', rfl, (hr.below hb).more hb.size, hA'⟩
    · obtain ⟨e, A1, c1, e2, r, hlo1⟩ := h3 x hx
      exact ⟨e, A1, c1, e2, (r.below hb).more hb.size, hlo1⟩
  · have : 0 < (insQ ⟨xw, .slice A' n c', xv⟩ l).length := by rw [insQ_length]; omega
    obtain ⟨b, o, e, _⟩ := hR.at_ (List.getElem?_eq_getElem this)
    exact .inr ⟨b, o, e, Nat.le_trans hlo (hfr _ e)⟩
theorem both_ok (wa wb n : Nat) (va vb : List Nat) (Aa Ab : Option Addr) (ca cb : Nat) (w : World) (hla : va.length = n) (hlb : vb.length = n) (ra : Rd w w.heap.size Aa (natsV va)) (rb : Rd w w.heap.size Ab (natsV vb)) (hn : n ≤ 1000) (hw : wa + wb ≤ 18446744073709551615)
    (hva : ∀ x ∈ va, x ≤ 1048576) (hvb : ∀ x ∈ vb, x ≤ 1048576) :
    Calls Try.prog 57 #[.agg #[.int .u64 wa, .slice Aa n ca], .agg #[.int .u64 wb, .slice Ab n cb]] w fun e w' => ∃ g, e = .returned (.agg #[.int .u64 (wa + wb : Nat), .slice (some ⟨g, 0, none⟩) n n]) ∧ Rd w' w'.heap.size (some ⟨g, 0, none⟩) (natsV (bothP ⟨wa, va⟩ ⟨wb, vb⟩).v) ∧ (bothP ⟨wa, va⟩ ⟨wb, vb⟩).v.length = n ∧ w.heap.size ≤ g ∧ Below w.heap.size w w' := by
  refine Calls.mono (both_any wa wb n va vb Aa Ab ca cb w hla hlb ra rb hn hw hva hvb) ?_
  rintro e w' ⟨g, rfl, hk, hg, hb⟩
  exact ⟨g, rfl, bkRdQ hk, by show (List.zipWith _ _ _).length = n; rw [List.length_zipWith]; show min va.length vb.length = n; omega, hg, hb⟩
theorem insP_sorted {x : PI} {l : List PI} (h : SortedP l) : SortedP (insP x l) := by
  induction l with
  | nil => exact List.pairwise_singleton _ _
  | cons y l ih =>
    have hs := List.pairwise_cons.1 h
    rw [insP]
    split
    · rename_i hy
      refine List.pairwise_cons.2 ⟨fun z hz => ?_, ih hs.2⟩
      rcases insP_mem hz with rfl | hz
      · exact hy
      · exact hs.1 z hz
    · rename_i hy
      refine List.pairwise_cons.2 ⟨fun z hz => ?_, h⟩
      rcases List.mem_cons.1 hz with rfl | hz
      · omega
      · have := hs.1 z hz; omega
theorem insP_length (x : PI) (l : List PI) : (insP x l).length = l.length + 1 := by
  induction l with
  | nil => rfl
  | cons y l ih => rw [insP]; split <;> simp [ih]
/-- Some items, put one behind the other. -/
def putsP (lv ps : List PI) : List PI := ps.foldl (fun l x => insP x l) lv
theorem putsP_snoc (lv ps : List PI) (x : PI) : putsP lv (ps ++ [x]) = insP x (putsP lv ps) := by unfold putsP; rw [List.foldl_append]; rfl
theorem putsP_length (lv ps : List PI) : (putsP lv ps).length = lv.length + ps.length := by
  unfold putsP
  induction ps generalizing lv with
  | nil => rfl
  | cons x ps ih => rw [List.foldl_cons, ih, insP_length, List.length_cons]; omega
theorem putsP_sorted {lv ps : List PI} (h : SortedP lv) : SortedP (putsP lv ps) := by
  unfold putsP
  induction ps generalizing lv with
  | nil => exact h
  | cons x ps ih => exact ih (insP_sorted h)
theorem pairsP_get : ∀ (q : Nat) {l : List PI} {a b : PI}, l[2 * q]? = some a → l[2 * q + 1]? = some b → (pairsP l)[q]? = some (bothP a b) := by
  intro q
  induction q with
  | zero =>
    intro l a b h1 h2
    match l, h1, h2 with
    | [], h1, _ => simp at h1
    | [_], _, h2 => simp at h2
    | x :: y :: r, h1, h2 =>
      simp at h1 h2
      rw [pairsP, h1, h2]; rfl
  | succ q ih =>
    intro l a b h1 h2
    match l, h1, h2 with
    | [], h1, _ => simp at h1
    | [_], h1, _ => rw [List.getElem?_eq_none (by simp; omega)] at h1; cases h1
    | x :: y :: r, h1, h2 =>
      rw [pairsP, List.getElem?_cons_succ]
      refine ih ?_ ?_
      · rw [← h1, show 2 * (q + 1) = 2 * q + 1 + 1 by omega, List.getElem?_cons_succ, List.getElem?_cons_succ]
      · rw [← h2, show 2 * (q + 1) + 1 = 2 * q + 1 + 1 + 1 by omega, List.getElem?_cons_succ, List.getElem?_cons_succ]
theorem pairsP_length : ∀ (n : Nat) {l : List PI}, l.length ≤ n → (pairsP l).length = l.length / 2 := by
  intro n
  induction n with
  | zero => intro l h; have : l = [] := List.eq_nil_of_length_eq_zero (by omega); subst this; rfl
  | succ n ih =>
    intro l h
    match l, h with
    | [], _ => rfl
    | [_], _ => simp [pairsP]
    | a :: b :: r, h => rw [pairsP, List.length_cons, ih (l := r) (by simp at h; omega)]; simp only [List.length_cons]; omega
/-- The first k leaves. -/
def leavesK (ws : List Int) (k : Nat) : List PI := putsP [] (((symL ws).take k).map (itemS ws))
theorem leavesK_succ {ws : List Int} {k s : Nat} (h : (symL ws)[k]? = some s) : leavesK ws (k + 1) = insP (itemS ws s) (leavesK ws k) := by
  unfold leavesK
  rw [List.take_add_one, h, List.map_append]
  exact putsP_snoc _ _ _
theorem leavesK_all (ws : List Int) : leavesK ws (symL ws).length = leavesP ws := by
  unfold leavesK leavesP putsP
  rw [List.take_of_length_le (Nat.le_refl _), List.foldl_map]
theorem leavesK_length {ws : List Int} {k : Nat} (h : k ≤ (symL ws).length) : (leavesK ws k).length = k := by
  unfold leavesK
  rw [putsP_length, List.length_map, List.length_take]; simp; omega
theorem leavesK_sorted (ws : List Int) (k : Nat) : SortedP (leavesK ws k) := putsP_sorted List.Pairwise.nil
/-- A leaf's row: nothing but a one at its own place. -/
theorem unit_row {ws : List Int} {k s : Nat} (h : (symL ws)[k]? = some s) : (List.replicate (symL ws).length 0).set k 1 = (itemS ws s).v := by
  show _ = (symL ws).map _
  apply List.ext_getElem
  · simp
  · intro i h1 h2
    have hk := (List.getElem?_eq_some_iff.1 h)
    obtain ⟨hk, hs⟩ := hk
    rw [List.getElem_map, List.getElem_set]
    by_cases e : k = i
    · subst e
      rw [if_pos rfl, if_pos hs]
    · rw [if_neg e, if_neg (fun he => e ((List.getElem_inj (symL_nodup ws)).1 (hs.trans he.symm))), List.getElem_replicate]
/-- What is known of a level. -/
theorem lev_facts {ws : List Int} (h0 : ∀ x ∈ ws, 0 ≤ x) (hm : ∀ x ∈ ws, x ≤ 1099511627776) {j : Nat} (hj : j ≤ 14) :
    SortedP (levP (leavesP ws) j) ∧ (levP (leavesP ws) j).length ≤ 2 * (symL ws).length ∧ ∀ x ∈ levP (leavesP ws) j, x.w ≤ 36028797018963968 ∧ x.v.length = (symL ws).length ∧ ∀ y ∈ x.v, y ≤ 1048576 := by
  have hw := lev_w (lw := lwL ws) (lwL_sorted ws) (leavesP_w h0)
  refine ⟨lev_sorted (lwL_sorted ws) (leavesP_w h0) j, ?_, fun x hx => ⟨?_, lev_len (leavesP_len h0) j x hx, fun y hy => ?_⟩⟩
  · rw [len_wsP (hw j), sym_len, ← lwL_length]; exact lvlL_length _ _
  · have h1 : x.w ∈ wsI (lvlL (lwL ws) j) := by rw [← hw j]; exact List.mem_map.2 ⟨x, hx, rfl⟩
    obtain ⟨z, hz, hzx⟩ := List.mem_map.1 h1
    have h2 := lvlL_w (lw := lwL ws) (B := 1099511627776) (fun v hv => by
      obtain ⟨i, hi, rfl⟩ := List.mem_map.1 hv
      have h3 := (ordL_lt hi).1
      have h4 := hm (ws.getD i 0) (by rw [List.getD_eq_getElem?_getD, List.getElem?_eq_getElem h3]; exact List.getElem_mem _)
      omega) j z hz
    have h3 : 2 ^ (j + 1) ≤ 2 ^ 15 := Nat.pow_le_pow_right (by omega) (by omega)
    have h4 := Nat.mul_le_mul_left 1099511627776 h3
    rw [← hzx]; omega
  · obtain ⟨k, hk, rfl⟩ := List.mem_iff_getElem.1 hy
    have h1 := lev_le (leavesP_len h0) (leavesP_le h0) j x hx k
    unfold atV at h1
    rw [List.getD_eq_getElem?_getD, List.getElem?_eq_getElem hk] at h1
    have h3 : 2 ^ j ≤ 2 ^ 14 := Nat.pow_le_pow_right (by omega) hj
    have h1 : x.v[k] ≤ 2 ^ j := h1
    omega
/-- All pairs of a level, put among the leaves, are the next one. -/
theorem puts_next (lv : List PI) (j : Nat) : putsP lv (pairsP (levP lv j)) = levP lv (j + 1) := rfl
#print axioms lev_facts
end Go.Proofs.Ytggffiikfelbjaa
