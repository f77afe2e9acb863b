/- The document's lengths are those of the program, plainly. No program in sight. -/
import Derived.Test.YtggffiikfelbjaaRefPlain
namespace Go.Proofs.Ytggffiikfelbjaa
open Go.RowKit

/-- The leaf of a symbol. -/
def itemS (ws : List Int) (s : Nat) : PI := ⟨(ws.getD s 0).toNat, (symL ws).map fun t => if t = s then 1 else 0⟩
theorem put_map {ws : List Int} (h0 : ∀ x ∈ ws, 0 ≤ x) (x : Nat) (l : List Nat) : insP (itemS ws x) (l.map (itemS ws)) = (putL ws x l).map (itemS ws) := by
  have h1 : ∀ s, 0 ≤ ws.getD s 0 := fun s => by
    rw [List.getD_eq_getElem?_getD]
    rcases Nat.lt_or_ge s ws.length with g | g
    · rw [List.getElem?_eq_getElem g]; exact h0 _ (List.getElem_mem g)
    · rw [List.getElem?_eq_none g]; exact Int.le_refl 0
  induction l with
  | nil => rfl
  | cons y l ih =>
    rw [List.map_cons, insP, putL]
    have a := h1 x
    have b := h1 y
    show (if (ws.getD y 0).toNat ≤ (ws.getD x 0).toNat then _ else _) = _
    by_cases g : ws.getD x 0 < ws.getD y 0
    · rw [if_pos g, if_neg (by omega)]; rfl
    · rw [if_neg g, if_pos (by omega), ih]; rfl
def leavesP (ws : List Int) : List PI := (symL ws).foldl (fun l s => insP (itemS ws s) l) []
theorem leavesP_eq {ws : List Int} (h0 : ∀ x ∈ ws, 0 ≤ x) : leavesP ws = (ordL ws).map (itemS ws) := by
  have : ∀ (s l : List Nat), s.foldl (fun l s => insP (itemS ws s) l) (l.map (itemS ws)) = (s.foldl (fun l x => putL ws x l) l).map (itemS ws) := by
    intro s
    induction s with
    | nil => intro l; rfl
    | cons x s ih => intro l; rw [List.foldl_cons, List.foldl_cons, put_map h0, ih]
  exact this (symL ws) []
theorem leavesP_w {ws : List Int} (h0 : ∀ x ∈ ws, 0 ≤ x) : wsP (leavesP ws) = lwL ws := by
  rw [leavesP_eq h0]; unfold wsP lwL; rw [List.map_map]; rfl
theorem leavesP_len {ws : List Int} (h0 : ∀ x ∈ ws, 0 ≤ x) : ∀ x ∈ leavesP ws, x.v.length = (symL ws).length := by
  rw [leavesP_eq h0]
  intro x hx
  obtain ⟨s, _, rfl⟩ := List.mem_map.1 hx
  show ((symL ws).map _).length = _
  rw [List.length_map]
theorem itemS_at {ws : List Int} {s k t : Nat} (hk : (symL ws)[k]? = some t) : atV k (itemS ws s) = if t = s then 1 else 0 := by
  show ((symL ws).map _).getD k 0 = _
  rw [List.getD_eq_getElem?_getD, List.getElem?_map, hk]; rfl
theorem leavesP_le {ws : List Int} (h0 : ∀ x ∈ ws, 0 ≤ x) : ∀ x ∈ leavesP ws, ∀ k, atV k x ≤ 1 := by
  rw [leavesP_eq h0]
  intro x hx k
  obtain ⟨s, _, rfl⟩ := List.mem_map.1 hx
  rcases Nat.lt_or_ge k (symL ws).length with g | g
  · rw [itemS_at (List.getElem?_eq_getElem g)]; split <;> omega
  · show ((symL ws).map _).getD k 0 ≤ 1
    rw [List.getD_eq_getElem?_getD, List.getElem?_eq_none (by rw [List.length_map]; exact g)]; exact Nat.zero_le _
theorem nodup_take {a : Nat} : ∀ {o : List Nat} {p : Nat} (C : Nat), o.Nodup → o[p]? = some a → ((o.take C).map fun s => if a = s then 1 else 0).sum = if p < C then 1 else 0 := by
  intro o
  induction o with
  | nil => intro p C _ h; simp at h
  | cons x o ih =>
    intro p C hn h
    have hn' := List.nodup_cons.1 hn
    cases C with
    | zero => simp
    | succ C =>
      rw [List.take_succ_cons, List.map_cons, List.sum_cons]
      cases p with
      | zero =>
        have h : x = a := by simpa using h
        subst h
        rw [if_pos rfl, if_pos (by omega)]
        have : ((o.take C).map fun s => if x = s then 1 else 0).sum = 0 := by
          have : ∀ l : List Nat, x ∉ l → (l.map fun s => if x = s then 1 else 0).sum = 0 := by
            intro l
            induction l with
            | nil => intro _; rfl
            | cons y l ih2 => intro hl; simp at hl; rw [List.map_cons, List.sum_cons, if_neg hl.1, ih2 hl.2]
          exact this _ (fun h => hn'.1 (List.mem_of_mem_take h))
        rw [this]
      | succ p =>
        have h : o[p]? = some a := by simpa using h
        have hne : a ≠ x := fun e => hn'.1 (e ▸ List.mem_of_getElem? h)
        rw [if_neg hne, ih C hn'.2 h]
        by_cases g : p < C
        · rw [if_pos g, if_pos (by omega)]
        · rw [if_neg g, if_neg (by omega)]
theorem leaves_first {ws : List Int} (h0 : ∀ x ∈ ws, 0 ≤ x) {k p t : Nat} (hk : (symL ws)[k]? = some t) (hp : (ordL ws)[p]? = some t) (C : Nat) : sumF (atV k) ((leavesP ws).take C) = if p < C then 1 else 0 := by
  rw [leavesP_eq h0, ← List.map_take]
  unfold sumF
  rw [List.map_map, ← nodup_take C (ord_nodup ws) hp]
  congr 1
  refine List.map_congr_left fun s _ => ?_
  exact itemS_at hk
/-- How long the code of a leaf is, by the document. -/
theorem lev_cnt {ws : List Int} (h0 : ∀ x ∈ ws, 0 ≤ x) {L : Nat} (hL : 1 ≤ L) {k p t : Nat} (hk : (symL ws)[k]? = some t) (hp : (ordL ws)[p]? = some t) :
    sumF (atV k) ((levP (leavesP ws) (L - 1)).take (2 * (ordL ws).length - 2)) = (cntL (lwL ws) L).getD p 0 := by
  have h := lev_all (lw := lwL ws) (lwL_sorted ws) (leavesP_w h0) (leavesP_len h0) hL k
  rw [lwL_length] at h
  rw [h, cntL_get]
  exact SS_congr fun i _ => leaves_first h0 hk hp _
/-- The numbers of an item, added each to its symbol's: those of the first k leaves. -/
def addK (s v : List Nat) (k : Nat) (o : List Nat) : List Nat := (List.range k).foldl (fun o q => o.set (s.getD q 0) (o.getD (s.getD q 0) 0 + v.getD q 0)) o
theorem addK_zero (s v o : List Nat) : addK s v 0 o = o := rfl
theorem addK_succ (s v : List Nat) (k : Nat) (o : List Nat) : addK s v (k + 1) o = (addK s v k o).set (s.getD k 0) ((addK s v k o).getD (s.getD k 0) 0 + v.getD k 0) := by
  unfold addK
  rw [List.range_succ, List.foldl_append]; rfl
theorem addK_length (s v : List Nat) (k : Nat) (o : List Nat) : (addK s v k o).length = o.length := by
  induction k with
  | zero => rfl
  | succ k ih => rw [addK_succ, List.length_set, ih]
theorem getD_inj {s : List Nat} (hn : s.Nodup) {i j : Nat} (hi : i < s.length) (hj : j < s.length) (h : s.getD i 0 = s.getD j 0) : i = j := by
  rw [List.getD_eq_getElem?_getD, List.getD_eq_getElem?_getD, List.getElem?_eq_getElem hi, List.getElem?_eq_getElem hj] at h
  exact (List.getElem_inj hn).1 h
theorem getD_set_ne {l : List Nat} {i j v : Nat} (h : i ≠ j) : (l.set i v).getD j 0 = l.getD j 0 := by rw [List.getD_eq_getElem?_getD, List.getElem?_set_ne h, ← List.getD_eq_getElem?_getD]
theorem getD_set_self {l : List Nat} {i v : Nat} (h : i < l.length) : (l.set i v).getD i 0 = v := by rw [List.getD_eq_getElem?_getD, List.getElem?_set_self h]; rfl
theorem addK_out {s v o : List Nat} {i : Nat} : ∀ k, (∀ q, q < k → s.getD q 0 ≠ i) → (addK s v k o).getD i 0 = o.getD i 0 := by
  intro k
  induction k with
  | zero => intro _; rfl
  | succ k ih => intro h; rw [addK_succ, getD_set_ne (h k (by omega)), ih (fun q hq => h q (by omega))]
theorem addK_in {s v o : List Nat} (hn : s.Nodup) (hs : ∀ x ∈ s, x < o.length) {q : Nat} : ∀ k, k ≤ s.length → q < s.length → (addK s v k o).getD (s.getD q 0) 0 = o.getD (s.getD q 0) 0 + if q < k then v.getD q 0 else 0 := by
  intro k
  induction k with
  | zero => intro _ _; rfl
  | succ k ih =>
    intro hk hq
    rw [addK_succ]
    have hlt : s.getD k 0 < o.length := hs _ (by rw [List.getD_eq_getElem?_getD, List.getElem?_eq_getElem (show k < s.length by omega)]; exact List.getElem_mem _)
    by_cases e : q = k
    · subst e
      rw [getD_set_self (by rw [addK_length]; exact hlt), ih (by omega) hq, if_neg (by omega), if_pos (by omega), Nat.add_zero]
    · rw [getD_set_ne (fun h => e (getD_inj hn (by omega) hq h).symm), ih (by omega) hq]
      by_cases g : q < k
      · rw [if_pos g, if_pos (by omega)]
      · rw [if_neg g, if_neg (by omega)]
theorem addK_le {s v o : List Nat} (hn : s.Nodup) (hs : ∀ x ∈ s, x < o.length) {B M : Nat} (ho : ∀ i, o.getD i 0 ≤ B) (hv : ∀ i, v.getD i 0 ≤ M) {k : Nat} (hk : k ≤ s.length) (i : Nat) : (addK s v k o).getD i 0 ≤ B + M := by
  by_cases h : ∃ q, q < s.length ∧ s.getD q 0 = i
  · obtain ⟨q, hq, rfl⟩ := h
    rw [addK_in hn hs k hk hq]
    have := ho (s.getD q 0)
    have := hv q
    split <;> omega
  · rw [addK_out k (fun q hq e => h ⟨q, by omega, e⟩)]
    have := ho i
    omega
def outL (s : List Nat) (l : List PI) (o : List Nat) : List Nat := l.foldl (fun o x => addK s x.v s.length o) o
theorem outL_snoc (s : List Nat) (l : List PI) (x : PI) (o : List Nat) : outL s (l ++ [x]) o = addK s x.v s.length (outL s l o) := by unfold outL; rw [List.foldl_append]; rfl
theorem outL_length (s : List Nat) (l : List PI) (o : List Nat) : (outL s l o).length = o.length := by
  unfold outL
  induction l generalizing o with
  | nil => rfl
  | cons x l ih => rw [List.foldl_cons, ih, addK_length]
theorem outL_out {s : List Nat} {i : Nat} (h : ∀ q, q < s.length → s.getD q 0 ≠ i) (l : List PI) (o : List Nat) : (outL s l o).getD i 0 = o.getD i 0 := by
  unfold outL
  induction l generalizing o with
  | nil => rfl
  | cons x l ih => rw [List.foldl_cons, ih, addK_out _ h]
theorem outL_in {s : List Nat} (hn : s.Nodup) {q : Nat} (hq : q < s.length) (l : List PI) : ∀ o : List Nat, (∀ x ∈ s, x < o.length) → (outL s l o).getD (s.getD q 0) 0 = o.getD (s.getD q 0) 0 + sumF (atV q) l := by
  unfold outL
  induction l with
  | nil => intro o _; rfl
  | cons x l ih =>
    intro o hs
    rw [List.foldl_cons, ih _ (fun y hy => by rw [addK_length]; exact hs y hy), addK_in hn hs _ (Nat.le_refl _) hq, if_pos hq, sumF_cons]
    show _ + x.v.getD q 0 + _ = _ + (x.v.getD q 0 + _)
    omega
theorem outL_le {s : List Nat} (hn : s.Nodup) {M : Nat} : ∀ {l : List PI} {o : List Nat} {B : Nat}, (∀ x ∈ s, x < o.length) → (∀ i, o.getD i 0 ≤ B) → (∀ x ∈ l, ∀ i, atV i x ≤ M) → ∀ i, (outL s l o).getD i 0 ≤ B + l.length * M := by
  intro l
  induction l with
  | nil => intro o B _ ho _ i; have := ho i; simp [outL]; simpa using this
  | cons x l ih =>
    intro o B hs ho hl i
    have h1 := ih (o := addK s x.v s.length o) (B := B + M) (fun y hy => by rw [addK_length]; exact hs y hy) (fun i => addK_le hn hs ho (hl x (by simp)) (Nat.le_refl _) i) (fun y hy => hl y (List.mem_cons_of_mem _ hy)) i
    show (outL s l (addK s x.v s.length o)).getD i 0 ≤ _
    rw [List.length_cons, Nat.succ_mul]
    omega
theorem symL_nodup (ws : List Int) : (symL ws).Nodup := (symK_sorted ws ws.length).imp fun h e => by omega
theorem sym_len (ws : List Int) : (symL ws).length = (ordL ws).length := (ordL_perm ws).length_eq.symm
/-- The document's lengths. -/
def refL (ws : List Int) (L : Nat) : List Nat :=
  if (symL ws).length = 0 then List.replicate ws.length 0
  else if (symL ws).length = 1 then (List.replicate ws.length 0).set ((symL ws).getD 0 0) 1
  else outL (symL ws) ((levP (leavesP ws) (L - 1)).take (2 * (symL ws).length - 2)) (List.replicate ws.length 0)
theorem zeros_getD (n i : Nat) : (List.replicate n 0).getD i 0 = 0 := by
  rw [List.getD_eq_getElem?_getD, List.getElem?_replicate]; split <;> rfl
theorem ext_getD {a b : List Nat} (hl : a.length = b.length) (h : ∀ i, i < a.length → a.getD i 0 = b.getD i 0) : a = b := by
  apply List.ext_getElem hl
  intro i h1 h2
  have := h i h1
  rwa [List.getD_eq_getElem?_getD, List.getD_eq_getElem?_getD, List.getElem?_eq_getElem h1, List.getElem?_eq_getElem h2] at this
theorem refL_eq {ws : List Int} (h0 : ∀ x ∈ ws, 0 ≤ x) {L : Nat} (hL : 1 ≤ L) : refL ws L = packL ws L := by
  have e := sym_len ws
  unfold refL packL
  rw [e]
  by_cases g0 : (ordL ws).length = 0
  · rw [if_pos g0, if_pos g0]
  · rw [if_neg g0, if_neg g0]
    by_cases g1 : (ordL ws).length = 1
    · rw [if_pos g1, if_pos g1]
      have hs : symL ws = ordL ws := by
        have h1 := ordL_perm ws
        match ho : ordL ws, hs : symL ws, g1, e with
        | [a], [b], _, _ =>
          rw [ho, hs] at h1
          have : a ∈ [b] := h1.subset (by simp)
          simp at this
          rw [this]
        | _ :: _ :: _, _, g, _ => simp at g
        | [], _, g, _ => simp at g
        | [_], [], _, e => simp at e
        | [_], _ :: _ :: _, _, e => simp at e
      rw [hs]
    · rw [if_neg g1, if_neg g1]
      apply ext_getD
      · rw [outL_length, fill_length]
      · intro i hi
        rw [outL_length, List.length_replicate] at hi
        by_cases hw : 0 < ws.getD i 0
        · have hm : i ∈ symL ws := symK_mem hi hw
          obtain ⟨k, hk, hki⟩ := List.mem_iff_getElem.1 hm
          have hk' : (symL ws)[k]? = some i := by rw [List.getElem?_eq_getElem hk, hki]
          have hkd : (symL ws).getD k 0 = i := by rw [List.getD_eq_getElem?_getD, hk']; rfl
          obtain ⟨p, hp, hpi⟩ := ord_has hi hw
          have hp' : (ordL ws)[p]? = some i := by rw [List.getElem?_eq_getElem hp, ← hpi, List.getD_eq_getElem?_getD, List.getElem?_eq_getElem hp]; rfl
          have h1 := outL_in (symL_nodup ws) hk ((levP (leavesP ws) (L - 1)).take (2 * (ordL ws).length - 2)) (List.replicate ws.length 0) (fun x hx => by rw [List.length_replicate]; exact (symK_lt hx).1)
          rw [hkd, zeros_getD, Nat.zero_add, lev_cnt h0 hL hk' hp'] at h1
          have h2 := fill_in (ord_nodup ws) (z := List.replicate ws.length 0) (c := cntL (lwL ws) L) (fun s hs => by rw [List.length_replicate]; exact (ordL_lt hs).1) (by rw [cntL_length, lwL_length]) p hp
          rw [hpi] at h2
          rw [h1, h2]
        · rw [outL_out (fun q hq he => hw (by
            have : (symL ws)[q] ∈ symL ws := List.getElem_mem hq
            have h3 := (symK_lt this).2
            rw [List.getD_eq_getElem?_getD, List.getElem?_eq_getElem hq] at he
            have he : (symL ws)[q] = i := he
            rwa [he] at h3)), fill_out (fun p hp he => hw (by
            have := (List.of_mem_zip (show (p.1, p.2) ∈ (ordL ws).zip (cntL (lwL ws) L) from hp)).1
            have h3 := (ordL_lt this).2
            rwa [he] at h3))]
#print axioms refL_eq
end Go.Proofs.Ytggffiikfelbjaa
