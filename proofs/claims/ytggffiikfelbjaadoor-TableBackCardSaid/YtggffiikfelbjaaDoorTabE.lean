/- Walks: (*table.reader).take, next. -/
import Derived.Test.YtggffiikfelbjaaDoorTabD
namespace Go.Proofs.YtggffiikfelbjaaDoor
open Go.RowKit

/-- At p lies a reader. -/
def Rdr (w : World) (p : Nat) (s : ByteArray) (N a : Nat) : Prop := Bk w p 49 #[.string s, .int .i64 N, .int .i64 a]
/-- The two errors that are told, as the variables hold them. -/
def Sents (w : World) (e0 e1 : Value) : Prop := w.cell? ⟨0, 0, none⟩ = some e0 ∧ w.cell? ⟨1, 0, none⟩ = some e1
/-- What take answers. -/
def TakeP (p : Nat) (s : ByteArray) (N a k : Nat) (e0 : Value) (w : World) (e : Ending) (w' : World) : Prop :=
  (N < a + k ∧ e = .returned (.tuple #[.int .i64 0, e0]) ∧ ∃ j, w' = w.drewN j) ∨
  (a + k ≤ N ∧ e = .returned (.tuple #[.int .i64 (getN s a k : Nat), .nilIface]) ∧ Rdr w' p s N (a + k) ∧ Fr (fun g => g = p) w w')

set_option maxRecDepth 100000 in
set_option maxHeartbeats 2000000 in
theorem take_any (p : Nat) (s : ByteArray) (N a k : Nat) (e0 e1 : Value) (w : World) (hr : Rdr w p s N a) (hS : Sents w e0 e1) (hN : N ≤ 1048576) (hs : s.size = (N + 7) / 8) (ha : a ≤ N) (hk : k ≤ 4) :
    Calls Tryd.prog 25 #[.pointer (some ⟨p, 0, none⟩), .int .i64 k] w (TakeP p s N a k e0 w) := by
  obtain ⟨g0, g1⟩ := hS
  have c0 := hr.cell 0
  have c1 := hr.cell 1
  have c2 := hr.cell 2
  have f2 := hr.free 2
  simp at c0 c1 c2
  have HR := hide hr
  have HS := hide hs
  clear hr hs
  by_cases g : N < a + k
  · have gd : decide ((N : Int) - (a : Int) < (k : Int)) = true := decide_eq_true (by omega)
    go_enter Tryd.func25, Tryd.ntmps25
    go_wp2_with fail
    go_region
    go_wp2_with fail
    go_region
    go_wp2_with fail
    go_ret2
    exact .inl ⟨g, rfl, 2, rfl⟩
  · have gd : decide ((N : Int) - (a : Int) < (k : Int)) = false := decide_eq_false (by omega)
    have at_ : ∀ W, Calls Tryd.prog 20 #[bstr s N, .int .i64 a, .int .i64 k] W fun e w' => e = .returned (.int .u64 (getN s a k : Nat)) ∧ Below W.heap.size W w' := fun W => at_any s N a k W (by omega) (by have := HS.out; omega) (by have := HS.out; omega)
    obtain ⟨V, hV⟩ : ∃ V, V = getN s a k := ⟨_, rfl⟩
    have hVb : V < 16 := by
      have h1 := getN_lt s a k
      have h2 : 2 ^ k ≤ 2 ^ 4 := Nat.pow_le_pow_right (by omega) hk
      rw [hV]; omega
    rw [← hV] at at_
    have HAt := hide at_
    have HV := hide hV
    clear at_ hV
    go_enter Tryd.func25, Tryd.ntmps25
    go_wp2_with fail
    go_region
    go_wp2_with fail
    go_region_with (go_at_call 20; refine (Calls.mono (HAt.out _) ?_); rintro e w1 ⟨rfl, hb1⟩; have hr1 : Rdr w1 p s N a := (HR.out.drewN 2).keep hb1)
    all_goals
      have d0 := hr1.cell 2
      have d1 := hr1.free 2
      simp at d0
      go_wp2_with fail
      go_ret2
      exact .inr ⟨by omega, by rw [← HV.out]; rfl, hr1.set_ 2 (.int .i64 ((a + k : Nat) : Int)), (Fr.below (hb1 : Below (w.drewN 2).heap.size (w.drewN 2) w1) _ |> fun h => (⟨h.os, h.tape, h.output, h.size, h.block⟩ : Fr (fun g => g = p) w w1)).setCell (.inl rfl) _⟩
end Go.Proofs.YtggffiikfelbjaaDoor
