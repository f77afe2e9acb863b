/- Walk: (*table.reader).lengths. -/
import Derived.Test.YtggffiikfelbjaaDoorTabG
namespace Go.Proofs.YtggffiikfelbjaaDoor
open Go.RowKit

theorem nextT_kind : ∀ (n : Nat) (r : List Bool) (now : Nat) (way : Int), r.length ≤ n → (nextT r now way).1 = 0 ∨ (nextT r now way).1 = 5 ∨ (nextT r now way).1 = 7 := by
  intro n
  induction n with
  | zero =>
    intro r now way h
    obtain rfl : r = [] := List.eq_nil_of_length_eq_zero (by omega)
    rw [nextT]; exact .inr (.inl rfl)
  | succ n ih =>
    intro r now way h
    match r, h with
    | [], _ => rw [nextT]; exact .inr (.inl rfl)
    | false :: r, _ => rw [nextT]; exact .inl rfl
    | [true], _ => rw [nextT]; exact .inr (.inl rfl)
    | true :: true :: r, h =>
      rw [nextT]
      split
      · exact .inr (.inr rfl)
      · exact ih _ _ _ (by simp at h; omega)
    | true :: false :: r, h =>
      rw [nextT]
      split
      · exact .inr (.inr rfl)
      · exact ih _ _ _ (by simp at h; omega)
/-- What was read, and what is still to be read. -/
def restT (done : List Nat) (y : Int × List Nat × List Bool) : Int × List Nat × List Bool := if y.1 = 0 then (0, done ++ y.2.1, y.2.2) else (y.1, [], [])
theorem restT_nil {n : Nat} {f : Bool} {r : List Bool} {now : Nat} : restT [] (lensT n f r now) = lensT n f r now := by
  unfold restT
  split
  · rename_i h
    rw [List.nil_append, ← h]
  · rename_i h
    cases n with
    | zero => rw [lensT] at h; exact absurd rfl h
    | succ n =>
      rw [lensT] at h ⊢
      split
      · rename_i g
        rw [if_pos g] at h
        split
        · rfl
        · rename_i g2
          rw [if_neg g2] at h
          split
          · rename_i g3
            rw [if_pos g3] at h; exact absurd rfl h
          · rfl
      · rfl
theorem restT_stop {n : Nat} {f : Bool} {r : List Bool} {now : Nat} {k : Int} {done : List Nat} (h : (nextT r now 0).1 = k) (hk : k ≠ 0) : restT done (lensT (n + 1) f r now) = (k, [], []) := by
  rw [lensT, if_neg (by rw [h]; exact hk)]
  unfold restT
  rw [if_neg (by rw [h]; exact hk), h]
theorem restT_first {n : Nat} {r : List Bool} {now : Nat} {done : List Nat} (h : (nextT r now 0).1 = 0) (hl : (nextT r now 0).2.1 ≠ now) : restT done (lensT (n + 1) true r now) = (7, [], []) := by
  rw [lensT, if_pos h, if_pos ⟨rfl, hl⟩]
  rfl
theorem restT_on {n : Nat} {f : Bool} {r : List Bool} {now : Nat} {done : List Nat} (h : (nextT r now 0).1 = 0) (hl : f = true → (nextT r now 0).2.1 = now) :
    restT done (lensT (n + 1) f r now) = restT (done ++ [(nextT r now 0).2.1]) (lensT n false (nextT r now 0).2.2 (nextT r now 0).2.1) := by
  rw [lensT, if_pos h, if_neg (by rintro ⟨a, b⟩; exact b (hl a))]
  unfold restT
  split
  · rename_i g
    simp
  · rename_i g
    rfl
/-- What lengths reads. -/
def readT (s : ByteArray) (N a n : Nat) : Int × List Nat × List Bool :=
  if N < a + 4 then (5, [], [])
  else if (lensT n true ((bitsL s N).drop (a + 4)) (getN s a 4)).1 = 0 then
    (if okL ((lensT n true ((bitsL s N).drop (a + 4)) (getN s a 4)).2.1.map Int.ofNat) then lensT n true ((bitsL s N).drop (a + 4)) (getN s a 4) else (7, [], []))
  else lensT n true ((bitsL s N).drop (a + 4)) (getN s a 4)
/-- What lengths answers. -/
def RLensP (p : Nat) (s : ByteArray) (N n : Nat) (x : Int × List Nat × List Bool) (e0 e1 : Value) (w : World) (e : Ending) (w' : World) : Prop :=
  Fr (fun g => g = p) w w' ∧
  ((x.1 = 0 ∧ ∃ (a c g : Nat), a ≤ N ∧ x.2.2 = (bitsL s N).drop a ∧ e = .returned (.tuple #[.slice (some ⟨g, 0, none⟩) n c, .nilIface]) ∧ w.heap.size ≤ g ∧ Bk w' g 3 ((x.2.1.map fun (l : Nat) => Value.int .i64 l)).toArray ∧ Rdr w' p s N a) ∨
   (x.1 = 5 ∧ ∃ v : Value, e = .returned (.tuple #[v, e0])) ∨ (x.1 = 7 ∧ ∃ v : Value, e = .returned (.tuple #[v, e1])))
/-- The next length, case by case. -/
theorem tnext_l (p : Nat) (s : ByteArray) (N a now : Nat) (q0 q1 : Addr) (w : World) (hr : Rdr w p s N a) (hS : Sents w (ers q0) (ers q1)) (hN : N ≤ 1048576) (hs : s.size = (N + 7) / 8) (ha : a ≤ N) (hn : now ≤ 15) (hp : 2 ≤ p) {l : Nat} {r : List Bool} (h : nextT ((bitsL s N).drop a) now 0 = (0, l, r)) :
    Calls Tryd.prog 26 #[.pointer (some ⟨p, 0, none⟩), .int .i64 now] w fun e w' => e = .returned (.tuple #[.int .i64 l, .nilIface]) ∧ Fr (fun g => g = p) w w' ∧ l ≤ 15 ∧ ∃ a, a ≤ N ∧ r = (bitsL s N).drop a ∧ Rdr w' p s N a := by
  refine Calls.mono (tnext_any p s N a now q0 q1 w hr hS hN hs ha hn hp) ?_
  rintro e w' ⟨hf, ⟨_, hl, a', ha', hd, rfl, hr'⟩ | ⟨h5, _⟩ | ⟨h7, _⟩⟩
  · rw [h] at hl hd ⊢; exact ⟨rfl, hf, hl, a', ha', hd, hr'⟩
  · rw [h] at h5; cases h5
  · rw [h] at h7; cases h7
theorem tnext_0 (p : Nat) (s : ByteArray) (N a now : Nat) (q0 q1 : Addr) (w : World) (hr : Rdr w p s N a) (hS : Sents w (ers q0) (ers q1)) (hN : N ≤ 1048576) (hs : s.size = (N + 7) / 8) (ha : a ≤ N) (hn : now ≤ 15) (hp : 2 ≤ p) (h : (nextT ((bitsL s N).drop a) now 0).1 = 5) :
    Calls Tryd.prog 26 #[.pointer (some ⟨p, 0, none⟩), .int .i64 now] w fun e w' => (∃ v : Int, e = .returned (.tuple #[.int .i64 v, ers q0])) ∧ Fr (fun g => g = p) w w' := by
  refine Calls.mono (tnext_any p s N a now q0 q1 w hr hS hN hs ha hn hp) ?_
  rintro e w' ⟨hf, ⟨h0, _⟩ | ⟨_, he⟩ | ⟨h7, _⟩⟩
  · rw [h] at h0; cases h0
  · exact ⟨he, hf⟩
  · rw [h] at h7; cases h7
theorem tnext_1 (p : Nat) (s : ByteArray) (N a now : Nat) (q0 q1 : Addr) (w : World) (hr : Rdr w p s N a) (hS : Sents w (ers q0) (ers q1)) (hN : N ≤ 1048576) (hs : s.size = (N + 7) / 8) (ha : a ≤ N) (hn : now ≤ 15) (hp : 2 ≤ p) (h : (nextT ((bitsL s N).drop a) now 0).1 = 7) :
    Calls Tryd.prog 26 #[.pointer (some ⟨p, 0, none⟩), .int .i64 now] w fun e w' => (∃ v : Int, e = .returned (.tuple #[.int .i64 v, ers q1])) ∧ Fr (fun g => g = p) w w' := by
  refine Calls.mono (tnext_any p s N a now q0 q1 w hr hS hN hs ha hn hp) ?_
  rintro e w' ⟨hf, ⟨h0, _⟩ | ⟨h5, _⟩ | ⟨_, he⟩⟩
  · rw [h] at h0; cases h0
  · rw [h] at h5; cases h5
  · exact ⟨he, hf⟩
theorem take_yes (p : Nat) (s : ByteArray) (N a k : Nat) (e0 e1 : Value) (w : World) (hr : Rdr w p s N a) (hS : Sents w e0 e1) (hN : N ≤ 1048576) (hs : s.size = (N + 7) / 8) (ha : a + k ≤ N) (hk : k ≤ 4) :
    Calls Tryd.prog 25 #[.pointer (some ⟨p, 0, none⟩), .int .i64 k] w fun e w' => e = .returned (.tuple #[.int .i64 (getN s a k : Nat), .nilIface]) ∧ Rdr w' p s N (a + k) ∧ Fr (fun g => g = p) w w' := by
  refine Calls.mono (take_any p s N a k e0 e1 w hr hS hN hs (by omega) hk) ?_
  rintro e w' (⟨h, _⟩ | ⟨_, rfl, h, hf⟩)
  · omega
  · exact ⟨rfl, h, hf⟩
/-- The row's cells: what was read, and zeros. -/
def lensC (done : List Nat) (n : Nat) : Array Value := ((done ++ List.replicate (n - done.length) 0).map fun (l : Nat) => Value.int .i64 l).toArray
theorem lensC_nil (n : Nat) : lensC [] n = madeCells #[.int .i64 0] n := by
  unfold lensC
  apply Array.ext
  · simp [size_madeCells]
  · intro i h1 h2; simp [madeCells, Nat.mod_one]
theorem lensC_get {done : List Nat} {n : Nat} (h : done.length < n) : (lensC done n)[done.length]? = some (.int .i64 0) := by
  unfold lensC
  rw [List.getElem?_toArray, List.map_append, List.getElem?_append_right (by simp)]
  simp only [List.map_replicate, List.length_map, Nat.sub_self, List.getElem?_replicate]
  rw [if_pos (by omega)]; rfl
theorem lensC_set {done : List Nat} {n l : Nat} (h : done.length < n) : (lensC done n).setIfInBounds done.length (.int .i64 l) = lensC (done ++ [l]) n := by
  unfold lensC
  obtain ⟨m, rfl⟩ : ∃ m, n = done.length + (m + 1) := ⟨n - done.length - 1, by omega⟩
  rw [List.setIfInBounds_toArray]
  congr 1
  rw [show done.length + (m + 1) - done.length = m + 1 by omega, List.replicate_succ, List.map_append, List.set_append_right _ _ (by simp)]
  simp [show done.length + (m + 1) - (done.length + 1) = m by omega]
theorem lensC_full {done : List Nat} {n : Nat} (h : done.length = n) : lensC done n = ((done.map fun (l : Nat) => Value.int .i64 l)).toArray := by
  unfold lensC
  rw [h, Nat.sub_self]; simp
theorem tcanon (g n c : Nat) (out : List Nat) (w : World) (h : Bk w g 3 ((out.map fun (l : Nat) => Value.int .i64 l)).toArray) (hn : out.length = n) (hlen : n ≤ 512) :
    Calls Tryd.prog 11 #[.slice (some ⟨g, 0, none⟩) n c] w fun e w' => e = .returned (.int .i64 (okW (out.map Int.ofNat))) ∧ w' = w := by
  have hr : Rd w w.heap.size (some ⟨g, 0, none⟩) ((out.map Int.ofNat).map (.int .i64)) := by
    intro i u hu
    refine ⟨g, 0, rfl, h.lt, ?_⟩
    rw [Nat.zero_add, h.cell i, List.getElem?_toArray, ← hu, List.map_map]
    rfl
  have := canonCheck_any (some ⟨g, 0, none⟩) (out.map Int.ofNat) c w hr (by simp; omega)
  rwa [List.length_map, hn] at this
#print axioms tcanon
end Go.Proofs.YtggffiikfelbjaaDoor
