/- What the law TableBack calls, as it calls it. -/
import Derived.Test.YtggffiikfelbjaaDoorTabL
namespace Go.Proofs.YtggffiikfelbjaaDoor
open Go.RowKit

theorem Below.alloc_trans {B : Nat} {a w w' : World} {o : Obj} (h : Below B a w) (hB : B ≤ w.heap.size) (k : Below (w.alloc o).heap.size (w.alloc o) w') : Below B a w' :=
  (h.alloc hB o).trans (k.mono (by simp; omega))
theorem nats_rd {w : World} {g : Nat} {t : TypeId} {out : List Nat} (h : Bk w g t ((out.map fun (l : Nat) => Value.int .i64 l)).toArray) : Rd w w.heap.size (some ⟨g, 0, none⟩) ((out.map Int.ofNat).map (.int .i64)) := by
  intro i u hu
  refine ⟨g, 0, rfl, h.lt, ?_⟩
  rw [Nat.zero_add, h.cell i, List.getElem?_toArray, ← hu, List.map_map]
  rfl
/-- Write, where the lengths and the bits have room. -/
theorem back_write (A : Option Addr) (ls : List Int) (c M : Nat) (s : ByteArray) (W : World) (h : Rd W W.heap.size A (ls.map (.int .i64))) (hlen : ls.length ≤ 9223372036854775807) (hs : s.size ≤ 9223372036854775807) (hn : I64 M) (h0 : (tabR ls s M).1 = 0) {N2 : Nat} (hN : N2 = M + (tabBits ls).length) :
    Calls Tryd.prog 6 #[bstr s M, .slice A ls.length c] W fun e w' => (∃ s2, e = .returned (.tuple #[bstr s2 N2, .int .i64 0]) ∧ Bs s2 N2 (bitsL s M ++ tabBits ls)) ∧ Below W.heap.size W w' := by
  refine Calls.mono (twrite_any A ls c s M W h hlen hn hs) ?_
  rintro e w' ⟨s', n', rfl, hc, hb⟩
  have h2 : (tabR ls s M).2 = bitsL s M ++ tabBits ls := by
    unfold tabR at h0 ⊢
    split
    · rename_i g1
      rw [if_pos g1] at h0
      split
      · rename_i g2
        rw [if_pos g2] at h0
        split
        · rename_i g3
          rw [if_pos g3] at h0; cases h0
        · rfl
      · rename_i g2
        rw [if_neg g2] at h0; exact absurd h0 g2
    · rename_i g1
      rw [if_neg g1] at h0; cases h0
  rcases hc with ⟨_, hc⟩ | ⟨hc, _⟩ | ⟨hc, _⟩
  · rw [h2] at hc
    have : n' = (N2 : Int) := by rw [hc.2.1, hN]; simp
    subst this
    rw [h0]
    exact ⟨⟨s', rfl, hc⟩, hb⟩
  · rw [h0] at hc; rcases hc with hc | hc <;> cases hc
  · rw [h0] at hc; cases hc
theorem back_nowrite (A : Option Addr) (ls : List Int) (c : Nat) (n : Int) (s : ByteArray) (W : World) (h : Rd W W.heap.size A (ls.map (.int .i64))) (hlen : ls.length ≤ 9223372036854775807) (hs : s.size ≤ 9223372036854775807) (hn : I64 n) {v : Int} (hv : (tabR ls s n).1 = v) :
    Calls Tryd.prog 6 #[bstr s n, .slice A ls.length c] W fun e w' => (∃ s2 n2, e = .returned (.tuple #[bstr s2 n2, .int .i64 v])) ∧ Below W.heap.size W w' := by
  refine Calls.mono (twrite_any A ls c s n W h hlen hn hs) ?_
  rintro e w' ⟨s', n', rfl, _, hb⟩
  rw [hv]; exact ⟨⟨s', n', rfl⟩, hb⟩
/-- Read, of what was written. -/
theorem back_read (ls : List Int) (M N2 : Nat) (s s2 : ByteArray) (q0 q1 : Addr) (W : World) (hS : Sent2 W q0 q1) (h0 : tabW ls = 0) (hb : Bs s2 N2 (bitsL s M ++ tabBits ls)) :
    Calls Tryd.prog 7 #[bstr s2 N2, .int .i64 M, .int .i64 ls.length] W fun e w' => (∃ c g, e = .returned (.tuple #[.slice (some ⟨g, 0, none⟩) ls.length c, .int .i64 N2, .int .i64 0]) ∧ Rd w' w'.heap.size (some ⟨g, 0, none⟩) (ls.map (.int .i64))) ∧ Below W.heap.size W w' := by
  obtain ⟨hok, hne⟩ := tabW_zero h0
  obtain ⟨h512, hr⟩ := okL_nat hok
  obtain ⟨i1, i2, i3, i4, i5, i6⟩ := hb.int
  have hl : N2 = M + (tabBits ls).length := by
    rw [List.length_append, bitsL_length] at i4; omega
  have hx : treadX s2 N2 M ls.length = (0, ls.map Int.toNat, []) := by
    unfold treadX
    rw [if_pos i3, if_neg (by omega)]
    have e2 : bitsL s2 N2 = bitsL s M ++ tabBits ls := by
      rw [← i5, List.length_append, bitsL_length, hl]
    exact read_written h0 (by simp) e2
  refine Calls.mono (tread_any s2 N2 M ls.length q0 q1 W hS i1 ⟨by omega, by omega⟩ ⟨by omega, by omega⟩ i2) ?_
  rintro e w' ⟨hbe, ⟨_, a, c, g, ha, hr2, rfl, hg, hk⟩ | ⟨hne, _⟩⟩
  · rw [hx] at hr2 hk
    have : a = N2 := by
      have := congrArg List.length hr2
      simp at this ha; omega
    subst this
    refine ⟨⟨c, g, rfl, ?_⟩, hbe⟩
    have := nats_rd hk
    rwa [toNat_ofNat (fun x hx => (hr x hx).1)] at this
  · rw [hx] at hne; exact absurd rfl hne
/-- Read, of any bits: what it has, where it is all right. -/
theorem back_any (s : ByteArray) (M a K : Nat) (q0 q1 : Addr) (W : World) (hS : Sent2 W q0 q1) (hn : I64 M) (ha : I64 a) (hk : I64 K) (hs : s.size ≤ 9223372036854775807) {out : List Nat} {r : List Bool} (hx : treadX s M a K = (0, out, r)) {E : Nat} (hE : E = M - r.length) :
    Calls Tryd.prog 7 #[bstr s M, .int .i64 a, .int .i64 K] W fun e w' => (∃ c g, e = .returned (.tuple #[.slice (some ⟨g, 0, none⟩) K c, .int .i64 E, .int .i64 0]) ∧ Bk w' g 3 ((out.map fun (l : Nat) => Value.int .i64 l)).toArray) ∧ Below W.heap.size W w' := by
  refine Calls.mono (tread_any s M a K q0 q1 W hS hn ha hk hs) ?_
  rintro e w' ⟨hbe, ⟨_, a', c, g, ha', hr2, rfl, hg, hk⟩ | ⟨hne, _⟩⟩
  · rw [hx] at hr2 hk
    have : a' = E := by
      have := congrArg List.length hr2
      simp at this ha'; omega
    subst this
    exact ⟨⟨c, g, rfl, hk⟩, hbe⟩
  · rw [hx] at hne; exact absurd rfl hne
theorem treadX_zero {s : ByteArray} {n a k : Int} {out : List Nat} {r : List Bool} (h : treadX s n a k = (0, out, r)) : rightB s n = true ∧ 0 ≤ a ∧ a ≤ n ∧ 1 ≤ k ∧ k ≤ 512 ∧ readT s n.toNat a.toNat k.toNat = (0, out, r) := by
  unfold treadX at h
  split at h
  · rename_i g1
    split at h
    · cases h
    · rename_i g2
      exact ⟨g1, by omega, by omega, by omega, by omega, h⟩
  · cases h
/-- The bits of what was read. -/
theorem back_cut (s : ByteArray) (M a E K : Nat) (W : World) (hn : I64 M) (ha : I64 a) (hs : s.size ≤ 9223372036854775807) {out : List Nat} {r : List Bool} (hx : treadX s M a K = (0, out, r)) (hE : E = M - r.length) :
    Calls Tryd.prog 10 #[bstr s M, .int .i64 a, .int .i64 ((E : Int) - (a : Int))] W fun e w' => (∃ s' n', e = .returned (.tuple #[bstr s' n', .int .i64 0]) ∧ Bs s' n' (tabBits (out.map Int.ofNat))) ∧ Below W.heap.size W w' := by
  obtain ⟨h1, h2, h3, h4, h5, h6⟩ := treadX_zero hx
  rw [Int.toNat_natCast, Int.toNat_natCast, Int.toNat_natCast] at h6
  obtain ⟨b1, b2, b3⟩ := read_bits (by omega) h6
  have hl := congrArg List.length b3
  rw [List.length_drop, bitsL_length, List.length_append] at hl
  have hR := rightB_n h1
  refine Calls.mono (cut_yes s M a ((E : Int) - (a : Int)) W hn ha ⟨by omega, by omega⟩ hs (by unfold cutW; rw [if_pos h1, if_neg (by omega), if_neg (by omega)])) ?_
  rintro e w' ⟨⟨s', n', rfl, hc⟩, hb⟩
  rw [Int.toNat_natCast, Int.toNat_natCast, b3, List.take_left' (by omega)] at hc
  exact ⟨⟨s', n', rfl, hc⟩, hb⟩
#print axioms back_cut
end Go.Proofs.YtggffiikfelbjaaDoor
