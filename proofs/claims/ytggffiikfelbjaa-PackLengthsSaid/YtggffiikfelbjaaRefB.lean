/- Items of the document's, plainly; append as a step of a region. -/
import Derived.Test.YtggffiikfelbjaaRefA
namespace Go.Proofs.Ytggffiikfelbjaa
open Go.RowKit

theorem info_ritem : (Try.prog.info? 87).map (fun i => (i.zero, i.size, i.bytes)) = some (some (.agg #[.int .u64 0, .slice none 0 0]), 2, 32) := by kernel_rfl
/-- An item of the document's: its weight, its leaves' row, and what is in it. -/
structure QI where
  w : Nat
  V : Value
  v : List Nat
def qV (x : QI) : List Value := [.int .u64 x.w, x.V]
def flatQ (l : List QI) : List Value := l.flatMap qV
theorem flatQ_length (l : List QI) : (flatQ l).length = l.length * 2 := by
  unfold flatQ
  induction l with
  | nil => rfl
  | cons x l ih => rw [List.flatMap_cons, List.length_append, ih, List.length_cons]; simp [qV]; omega
theorem flatQ_append (a b : List QI) : flatQ (a ++ b) = flatQ a ++ flatQ b := by unfold flatQ; rw [List.flatMap_append]
theorem flatQ_get {l : List QI} {j : Nat} {x : QI} (h : l[j]? = some x) : (flatQ l)[j * 2]? = some (.int .u64 x.w) ∧ (flatQ l)[j * 2 + 1]? = some x.V := by
  obtain ⟨hj, rfl⟩ := List.getElem?_eq_some_iff.1 h
  have e : flatQ l = flatQ (l.take j) ++ (qV l[j] ++ flatQ (l.drop (j + 1))) := by
    conv => lhs; rw [← List.take_append_drop j l, List.drop_eq_getElem_cons hj]
    rw [flatQ_append]; rfl
  have hl : (flatQ (l.take j)).length = j * 2 := by rw [flatQ_length, List.length_take]; congr 1; omega
  rw [e]
  refine ⟨?_, ?_⟩
  · rw [List.getElem?_append_right (by omega), hl, Nat.sub_self]; rfl
  · rw [List.getElem?_append_right (by omega), hl, Nat.add_sub_cancel_left]; rfl
theorem bkRdQ {w : World} {g : Nat} {t : TypeId} {xs : List Value} (h : Bk w g t xs.toArray) : Rd w w.heap.size (some ⟨g, 0, none⟩) xs := fun i u hu =>
  ⟨g, 0, rfl, h.lt, by rw [Nat.zero_add, h.cell i, List.getElem?_toArray]; exact hu⟩
theorem Bk.newAt {w : World} {g : Nat} {t : TypeId} {cs : Array Value} (h : w.heap.size = g) : Bk (w.alloc (.cells cs t)) g t cs := by
  subst h
  exact Bk.new _ _ _
def RdQ (w : World) (B : Nat) (A : Option Addr) (l : List QI) : Prop := Rd w B A (flatQ l)
theorem RdQ.at_ {w : World} {B : Nat} {A : Option Addr} {l : List QI} (h : RdQ w B A l) {j : Nat} {x : QI} (hx : l[j]? = some x) :
    ∃ b o, A = some ⟨b, o, none⟩ ∧ b < B ∧ w.cell? ⟨b, o + j * 2, none⟩ = some (.int .u64 x.w) ∧ w.cell? ⟨b, o + j * 2 + 1, none⟩ = some x.V := by
  obtain ⟨h0, h1⟩ := flatQ_get hx
  obtain ⟨b, o, rfl, hb, c0⟩ := h _ _ h0
  obtain ⟨b1, o1, e1, _, c1⟩ := h _ _ h1
  simp only [Option.some.injEq, Addr.mk.injEq, and_true] at e1
  obtain ⟨rfl, rfl⟩ := e1
  exact ⟨b, o, rfl, hb, c0, c1⟩
theorem RdQ.take {w : World} {B : Nat} {A : Option Addr} {l : List QI} (h : RdQ w B A l) (k : Nat) : RdQ w B A (l.take k) := fun i u hu => by
  have : flatQ l = flatQ (l.take k) ++ flatQ (l.drop k) := by rw [← flatQ_append, List.take_append_drop]
  exact h i u (by rw [this, List.getElem?_append_left (List.getElem?_eq_some_iff.1 hu).1]; exact hu)
theorem RdQ.drop {w : World} {B b o : Nat} {l : List QI} (h : RdQ w B (some ⟨b, o, none⟩) l) {k : Nat} (hk : k ≤ l.length) : RdQ w B (some ⟨b, o + k * 2, none⟩) (l.drop k) := fun i u hu => by
  have e : flatQ l = flatQ (l.take k) ++ flatQ (l.drop k) := by rw [← flatQ_append, List.take_append_drop]
  have hl : (flatQ (l.take k)).length = k * 2 := by rw [flatQ_length, List.length_take]; congr 1; omega
  obtain ⟨b', o', e', hb, hc⟩ := h (k * 2 + i) u (by rw [e, List.getElem?_append_right (by omega), hl, Nat.add_sub_cancel_left]; exact hu)
  simp only [Option.some.injEq, Addr.mk.injEq, and_true] at e'
  obtain ⟨rfl, rfl⟩ := e'
  exact ⟨b, o + k * 2, rfl, hb, by rw [← hc, Nat.add_assoc]⟩
/-- append, as one step of a region that draws its order, whatever is appended: nothing, too. -/
theorem step_append_rd {P : Program} {ops : Array Oper} {o : Oper} {a : Act} {w : World} {K : Act → World → Prop} {Q : Exit → Act → World → Prop} {E : Prop} (hgd : o.guard = none) (s x : Operand) (t : TypeId)
    (ho : o.op = .call { callee := .builtin .append, args := #[s, x], argTypes := #[t, t] })
    (base : Nat) (e : TypeId) (i : TypeInfo) (z : Value) (size bytes : Nat) (ht : P.underlying t = some (.slice e)) (hi : P.info? e = some i) (hz : i.zero = some z)
    (hsize : i.size = size) (hby : i.bytes = bytes) (hzs : z.cells.size = size) (hsz : 0 < size)
    (v : Value) (n : Nat) (xs : List Value) (hs : a.eval s = v) (hown : w.ownsRow base e size v n xs)
    (A : Option Addr) (m c : Nat) (news : List Value) (hx : a.eval x = .slice A m c) (hA : A = none → c = 0) (hl : news.length = m * size) (hr : Rd w w.heap.size A news) (h1 : ∀ u ∈ news, u.oneCell' = true)
    (h63 : n + m ≤ maxLen) (hbytes : (n + m) * bytes ≤ 140737488355328) (hbase : base ≤ w.heap.size)
    (h : ∀ v' w', w'.ownsRow base e size v' (n + m) (xs ++ news) → w.grownBy w' v.ownBlock → K (a.put o.dst v') w') :
    if Region.wanted o (yielded ops a.tmps) = true then Oper.wp P o a w K Q else E := by
  have hw : Region.wanted o (yielded ops a.tmps) = true := by simp [Region.wanted, hgd]
  rw [if_pos hw]
  cases A with
  | some ad =>
    obtain ⟨v', w', hrun, r1, r2, _⟩ := run_append_own (P := P) w base t o.type e i z size bytes ht hi hz hsize hby hzs hsz v n xs hown ad m c news hl (fun j u hu => by
      obtain ⟨b, off, e', _, hc⟩ := hr j u hu
      cases e'
      rw [Addr.add_lit]; exact hc) h1 h63 hbytes hbase
    unfold Oper.wp
    simp [execOp, ho, resolve, invoke, builtin, hs, hx, hrun, Result.andThen]
    exact h v' w' r1 r2
  | none =>
    obtain rfl := hA rfl
    obtain rfl : news = [] := by
      cases news with
      | nil => rfl
      | cons u us => obtain ⟨b, off, e', _⟩ := hr 0 u rfl; cases e'
    obtain rfl : m = 0 := by
      rcases Nat.mul_eq_zero.1 (show m * size = 0 by rw [← hl]; rfl) with h | h
      · exact h
      · omega
    have hrun := run_append_owned_none (P := P) w base t o.type e i size ht hi v n xs hown
    unfold Oper.wp
    simp [execOp, ho, resolve, invoke, builtin, hs, hx, hrun, Result.andThen]
    rw [List.append_nil] at h
    exact h v w hown ⟨rfl, rfl, rfl, Nat.le_refl _, fun _ _ _ => rfl⟩
/-- An item, laid behind all that are not heavier. -/
def insQ (x : QI) : List QI → List QI
  | [] => [x]
  | y :: l => if y.w ≤ x.w then y :: insQ x l else x :: y :: l
def SortedQ (l : List QI) : Prop := l.Pairwise fun a b => a.w ≤ b.w
theorem insQ_at {x : QI} : ∀ {l : List QI} {k : Nat}, SortedQ l → k ≤ l.length → (∀ y, l[k - 1]? = some y → 0 < k → y.w ≤ x.w) → (∀ j y, k ≤ j → l[j]? = some y → x.w < y.w) → l.take k ++ x :: l.drop k = insQ x l := by
  intro l
  induction l with
  | nil => intro k _ _ _ _; simp [insQ]
  | cons y l ih =>
    intro k hs hk h1 h2
    cases k with
    | zero =>
      have := h2 0 y (Nat.le_refl _) rfl
      rw [insQ, if_neg (by omega)]; rfl
    | succ k =>
      have hs' := List.pairwise_cons.1 hs
      have hy : y.w ≤ x.w := by
        cases k with
        | zero => exact h1 y rfl (by omega)
        | succ k =>
          have hk' : k < l.length := by simp at hk; omega
          have h3 := h1 l[k] (by simp [hk']) (by omega)
          exact Nat.le_trans (hs'.1 _ (List.getElem_mem hk')) h3
      rw [insQ, if_pos hy, ← ih hs'.2 (by simpa using hk) (fun z hz hk0 => h1 z (by
        obtain ⟨k, rfl⟩ : ∃ m, k = m + 1 := ⟨k - 1, by omega⟩
        simpa using hz) (by omega)) (fun j z hj hz => h2 (j + 1) z (by omega) (by simpa using hz))]
      rfl
theorem insQ_length (x : QI) (l : List QI) : (insQ x l).length = l.length + 1 := by
  induction l with
  | nil => rfl
  | cons y l ih => rw [insQ]; split <;> simp [ih]
theorem insQ_mem {x z : QI} {l : List QI} (h : z ∈ insQ x l) : z = x ∨ z ∈ l := by
  induction l with
  | nil => simp [insQ] at h; exact .inl h
  | cons y l ih =>
    rw [insQ] at h
    split at h
    · rcases List.mem_cons.1 h with rfl | h
      · exact .inr (by simp)
      · rcases ih h with h | h
        · exact .inl h
        · exact .inr (List.mem_cons_of_mem _ h)
    · rcases List.mem_cons.1 h with rfl | h
      · exact .inl rfl
      · exact .inr h
theorem insQ_sorted {x : QI} {l : List QI} (h : SortedQ l) : SortedQ (insQ x l) := by
  induction l with
  | nil => exact List.pairwise_singleton _ _
  | cons y l ih =>
    have hs := List.pairwise_cons.1 h
    rw [insQ]
    split
    · rename_i hy
      refine List.pairwise_cons.2 ⟨fun z hz => ?_, ih hs.2⟩
      rcases insQ_mem hz with rfl | hz
      · exact hy
      · exact hs.1 z hz
    · rename_i hy
      refine List.pairwise_cons.2 ⟨fun z hz => ?_, h⟩
      rcases List.mem_cons.1 hz with rfl | hz
      · omega
      · have := hs.1 z hz; omega

#print axioms insQ_sorted
end Go.Proofs.Ytggffiikfelbjaa
