/- Walks: (bits.row).get, bits.At. -/
import Derived.Test.YtggffiikfelbjaaBitsA
namespace Go.Proofs.Ytggffiikfelbjaa
open Go.RowKit

theorem get_next (s : ByteArray) (at0 k A V n : Nat) (hA : A = at0 + k) (hk : k + V ≤ 64) (hV : A % 8 + V ≤ 8) (hs : A / 8 < s.size) (hn : n = getN s at0 k) :
    bits .or .u64 (IntKind.u64.wrap ((n : Int) * 2 ^ V)) (bits .and .u64 (IntKind.u64.wrap ((s[A / 8]'hs).toNat : Int) / 2 ^ (8 - A % 8 - V)) (IntKind.u64.wrap (IntKind.u64.wrap (2 ^ V) - 1))) = (getN s at0 (k + V) : Nat) := by
  rw [byt_of, get_step _ _ _ _ (byt_lt _ _) (by omega), hn, getN_add, ← hA, getN_byte s A V hV]
  have h1 := getN_lt s at0 k
  have h2 : (getN s at0 k + 1) * 2 ^ V ≤ 2 ^ k * 2 ^ V := Nat.mul_le_mul_right _ h1
  rw [← Nat.pow_add, Nat.add_mul, Nat.one_mul] at h2
  have h3 : 2 ^ (k + V) ≤ 2 ^ 64 := Nat.pow_le_pow_right (by omega) hk
  rw [hn]; omega

theorem get_next0 (s : ByteArray) (at0 k A n : Nat) (hA : A = at0 + k) (hk : k + (8 - A % 8) ≤ 64) (hs : A / 8 < s.size) (hn : n = getN s at0 k) :
    bits .or .u64 (IntKind.u64.wrap ((n : Int) * 2 ^ (8 - A % 8))) (bits .and .u64 (IntKind.u64.wrap ((s[A / 8]'hs).toNat : Int)) (IntKind.u64.wrap (IntKind.u64.wrap (2 ^ (8 - A % 8)) - 1))) = (getN s at0 (k + (8 - A % 8)) : Nat) := by
  have h := get_next s at0 k A (8 - A % 8) n hA hk (by omega) hs hn
  rw [Nat.sub_self, Int.pow_zero, Int.ediv_one] at h
  exact h
set_option maxHeartbeats 1000000 in
theorem get_any (s : ByteArray) (m : Int) (at0 wd : Nat) (w : World) (hw : wd ≤ 64) (ha : at0 + wd ≤ 8 * s.size) (hs : s.size ≤ 1000000000) :
    Calls Try.prog 60 #[bstr s m, .int .i64 at0, .int .i64 wd] w fun e w' => e = .returned (.int .u64 (getN s at0 wd)) ∧ Below w.heap.size w w' := by
  go_enter Try.func60, Try.ntmps60
  go_wp2
  go_loopw [1, 2, 7] (fun a v n wr => ∃ k : Nat, k ≤ wd ∧ a = .int .i64 ((at0 + k : Nat) : Int) ∧ v = .int .i64 ((wd - k : Nat) : Int) ∧ n = .int .u64 (getN s at0 k) ∧ Below w.heap.size w wr ∧ wr.cell? ⟨w.heap.size, 0, none⟩ = some (.string s)) (fun _ v _ _ => (intOf v).toNat)
  case atStart => exact ⟨0, by omega, rfl, rfl, rfl, by go_grown, by simp [go_sem]⟩
  case round =>
    obtain ⟨k, hk, rfl, rfl, rfl, hbe, c0⟩ := hrel
    obtain ⟨A, hA⟩ : ∃ A, A = at0 + k := ⟨_, rfl⟩
    obtain ⟨V, hV⟩ : ∃ V, V = wd - k := ⟨_, rfl⟩
    obtain ⟨N, hN⟩ : ∃ N, N = getN s at0 k := ⟨_, rfl⟩
    rw [← hA, ← hV, ← hN]
    have HA := hide hA
    have HV := hide hV
    have HN := hide hN
    have f1 : 0 < V → A / 8 < s.size := by omega
    have f2 : V ≤ 64 := by omega
    have f4 : A ≤ 8000000000 := by omega
    clear hA hV hN
    by_cases h : 0 < V
    · have f3 : (A : Int) / 8 < s.size := by have := f1 h; omega
      have f3' := f1 h
      have e1 : IntKind.i64.wrap ((A : Int) / 8) = (A : Int) / 8 := IntWalk.i64_in _ ⟨by omega, by omega⟩
      have e2 : (0 : Int) ≤ (A : Int) / 8 := by omega
      clear f1
      by_cases g : V ≤ 8 - A % 8
      · have m1 : min (V : Int) (8 - (A : Int) % 8) = V := by omega
        have e3 : IntKind.i64.wrap (8 - (A : Int) % 8 - (V : Int)) = 8 - (A : Int) % 8 - (V : Int) := IntWalk.i64_in _ ⟨by omega, by omega⟩
        have e4 : (0 : Int) ≤ 8 - (A : Int) % 8 - (V : Int) := by omega
        go_wp2
        go_region
        go_wp2
        go_roundw
        case rel => exact ⟨wd, by omega, by have := HA.out; have := HV.out; go_num, by go_num, by rw [get_next s at0 k A V N HA.out (by have := HV.out; omega) (by omega) f3' HN.out, show k + V = wd by have := HV.out; omega], hbe.drew, by simpa [go_sem] using c0⟩
        case measure => simp [intOf]; omega
      · have m1 : min (V : Int) (8 - (A : Int) % 8) = 8 - (A : Int) % 8 := by omega
        have e4 : (1 : Int) ≤ 8 - (A : Int) % 8 := by omega
        go_wp2
        go_region
        go_wp2
        go_roundw
        case rel => exact ⟨k + (8 - A % 8), by have := HV.out; omega, by have := HA.out; have := HV.out; go_num, by have := HV.out; go_num, by rw [get_next0 s at0 k A N HA.out (by have := HV.out; omega) f3' HN.out], hbe.drew, by simpa [go_sem] using c0⟩
        case measure => simp [intOf]; omega
    · go_wp2
      go_ret
      exact ⟨ret_int (by have := HA.out; have := HV.out; rw [HN.out, show k = wd by omega]), hbe⟩

set_option maxHeartbeats 400000 in
theorem at_any (s : ByteArray) (m : Int) (at0 wd : Nat) (w : World) (hw : wd ≤ 64) (ha : at0 + wd ≤ 8 * s.size) (hs : s.size ≤ 1000000000) :
    Calls Try.prog 48 #[bstr s m, .int .i64 at0, .int .i64 wd] w fun e w' => e = .returned (.int .u64 (getN s at0 wd)) ∧ Below w.heap.size w w' := by
  go_enter Try.func48, Try.ntmps48
  go_wp2_with (go_at_call 60; refine (get_any s m at0 wd _ hw ha hs).mono ?_; rintro e w' ⟨rfl, hb1⟩)
  go_ret
  exact ⟨rfl, by have := hb1.mono (B' := w.heap.size) (by simp); exact (Below.alloc (Below.refl _ _) (Nat.le_refl _) _).trans this⟩
end Go.Proofs.Ytggffiikfelbjaa
