/- Walk: slices.symMergeCmpFunc. -/
import Derived.Test.YtggffiikfelbjaaSortD
namespace Go.Proofs.Ytggffiikfelbjaa
open Go.RowKit

/-- The place c of the left part against its mirror in the right one (mirrored at n). -/
def PX (ws : List Int) (X Y : List Nat) (a m n c : Nat) : Prop := ∃ x y, X[c - a]? = some x ∧ Y[n - 1 - c - m]? = some y ∧ ws.getD y 0 < ws.getD x 0
def NX (ws : List Int) (X Y : List Nat) (a m n c : Nat) : Prop := ∃ x y, X[c - a]? = some x ∧ Y[n - 1 - c - m]? = some y ∧ ¬ ws.getD y 0 < ws.getD x 0
/-- Where the two are parted, all that is ahead is ahead. -/
theorem sym_part {ws : List Int} {X Y : List Nat} {a m b s n e : Nat} (hX : X.Pairwise (Lx ws)) (hY : Y.Pairwise (Lx ws)) (hxy : ∀ x ∈ X, ∀ y ∈ Y, x < y) (hm : m = a + X.length) (hb : b = m + Y.length)
    (h1 : a ≤ s) (h3 : m ≤ e) (hn : n = s + e) (lo : s = a ∨ e = b ∨ NX ws X Y a m n (s - 1)) (hi : s = m ∨ e = m ∨ PX ws X Y a m n s) :
    ∀ z1 ∈ X.take (s - a) ++ Y.take (e - m), ∀ z2 ∈ X.drop (s - a) ++ Y.drop (e - m), Lx ws z1 z2 := by
  have tk : ∀ {l : List Nat} {k z : Nat}, z ∈ l.take k → ∃ i, i < k ∧ l[i]? = some z := fun {l k z} hz => by
    obtain ⟨i, hi⟩ := List.mem_iff_getElem?.1 hz
    have hk : i < k := by
      have := (List.getElem?_eq_some_iff.1 hi).1
      rw [List.length_take] at this; omega
    exact ⟨i, hk, by rwa [List.getElem?_take_of_lt hk] at hi⟩
  have dp : ∀ {l : List Nat} {k z : Nat}, z ∈ l.drop k → ∃ i, k ≤ i ∧ l[i]? = some z := fun {l k z} hz => by
    obtain ⟨i, hi⟩ := List.mem_iff_getElem?.1 hz
    rw [List.getElem?_drop] at hi
    exact ⟨k + i, by omega, hi⟩
  have le : ∀ {l : List Nat} {i j x y : Nat}, l.Pairwise (Lx ws) → l[i]? = some x → l[j]? = some y → i ≤ j → Lx ws x y ∨ x = y := fun {l i j x y} hl hx hy hij => by
    rcases Nat.lt_or_ge i j with h | h
    · exact .inl (sorted_at hl hx hy h)
    · obtain rfl : i = j := by omega
      exact .inr (by rw [hx] at hy; simpa using hy)
  intro z1 hz1 z2 hz2
  rcases List.mem_append.1 hz1 with hz1 | hz1 <;> rcases List.mem_append.1 hz2 with hz2 | hz2 <;> obtain ⟨i, hik, hzi⟩ := tk hz1 <;> obtain ⟨j, hjk, hzj⟩ := dp hz2
  · exact sorted_at hX hzi hzj (by omega)
  · have hil := (List.getElem?_eq_some_iff.1 hzi).1
    have hjl := (List.getElem?_eq_some_iff.1 hzj).1
    have hlt := hxy z1 (List.mem_of_getElem? hzi) z2 (List.mem_of_getElem? hzj)
    rcases lo with h | h | ⟨x, y, hx, hy, hk⟩
    · omega
    · omega
    · have k1 := le hX hzi hx (by omega)
      have k2 := le hY hy hzj (by omega)
      unfold Lx at *
      rcases k1 with k1 | rfl <;> rcases k2 with k2 | rfl <;> omega
  · have hil := (List.getElem?_eq_some_iff.1 hzi).1
    have hjl := (List.getElem?_eq_some_iff.1 hzj).1
    rcases hi with h | h | ⟨x, y, hx, hy, hk⟩
    · omega
    · omega
    · have k1 := le hY hzi hy (by omega)
      have k2 := le hX hx hzj (by omega)
      unfold Lx at *
      rcases k1 with k1 | rfl <;> rcases k2 with k2 | rfl <;> omega
  · exact sorted_at hY hzi hzj (by omega)

/-- The merge's promise, for parts of together at most N places. -/
def SymOK (g B c L : Nat) (ws : List Int) (N : Nat) : Prop :=
  ∀ (a m b : Nat) (P X Y Q : List Nat) (w : World), X.length + Y.length ≤ N → 0 < X.length → 0 < Y.length → Dat w g (P ++ (X ++ (Y ++ Q))) → L = (P ++ (X ++ (Y ++ Q))).length → a = P.length → m = P.length + X.length → b = P.length + X.length + Y.length →
    X.Pairwise (Lx ws) → Y.Pairwise (Lx ws) → (∀ x ∈ X, ∀ y ∈ Y, x < y) → (∀ x ∈ X, x < ws.length) → (∀ y ∈ Y, y < ws.length) → CmpAt g B ws w →
    Calls Try.prog 74 #[.slice (some ⟨g, 0, none⟩) L c, .int .i64 a, .int .i64 m, .int .i64 b, .func (.func 66) #[] #[.pointer (some ⟨B, 0, none⟩)]] w (SortP ws g P (X ++ Y) Q w)
/-- A part, sorted already or by a call. -/
theorem pairwise_four {ws : List Int} {Z1 Z2 W1 W2 : List Nat} (h1 : Z1.Pairwise (Lx ws)) (h2 : Z2.Pairwise (Lx ws)) (p1 : Z1.Perm W1) (p2 : Z2.Perm W2) (h : ∀ a ∈ W1, ∀ b ∈ W2, Lx ws a b) : (Z1 ++ Z2).Pairwise (Lx ws) :=
  List.pairwise_append.2 ⟨h1, h2, fun a ha b hb => h a (p1.subset ha) b (p2.subset hb)⟩
#print axioms pairwise_four
end Go.Proofs.Ytggffiikfelbjaa
