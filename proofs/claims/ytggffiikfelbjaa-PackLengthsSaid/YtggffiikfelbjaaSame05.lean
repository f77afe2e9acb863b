/- wringerref05.SameNumbers: two lists of ints are one. -/
import Derived.Test.YtggffiikfelbjaaBase
namespace Go.Proofs.Ytggffiikfelbjaa
open Go.RowKit

theorem take5 {a : List Int} {k : Nat} {x : Int} (h : a[k]? = some x) : a.take (k + 1) = a.take k ++ [x] := by
  rw [List.take_add_one, h]; rfl
set_option maxHeartbeats 400000 in
theorem sameNumbers_any (A B : Option Addr) (a b : List Int) (ca cb : Nat) (w : World) (ha : Rd w w.heap.size A (a.map (.int .i64))) (hb : Rd w w.heap.size B (b.map (.int .i64)))
    (la : a.length ≤ 9223372036854775807) (lb : b.length ≤ 9223372036854775807) :
    Calls Try.prog 32 #[.slice A a.length ca, .slice B b.length cb] w fun e w' => e = .returned (.bool (decide (a = b))) ∧ ∃ n, w' = w.drewN n := by
  by_cases hl : a.length = b.length
  · have hlb : ((a.length : Int) != (b.length : Int)) = false := by simp [hl]
    go_enter Try.func32, Try.ntmps32
    go_wp2
    go_loopw [13] (fun i wr => ∃ k n : Nat, k ≤ a.length ∧ a.take k = b.take k ∧ i = .int .i64 k ∧ wr = w.drewN n) (fun i _ => a.length - (intOf i).toNat)
    case atStart => exact ⟨0, 0, by omega, by simp, rfl, rfl⟩
    case round =>
      obtain ⟨k, n, hka, htk, rfl, rfl⟩ := hrel
      have HT := hide htk
      have HL := hide hl
      clear htk
      by_cases h1 : k < a.length
      · obtain ⟨b1, o1, x, rfl, hb1, hx, c1⟩ := ha.int h1
        obtain ⟨b2, o2, y, rfl, hb2, hy, c2⟩ := hb.int (show k < b.length by omega)
        have HX := hide hx
        have HY := hide hy
        clear hx hy ha hb
        have h2 : k < b.length := by omega
        clear hl
        by_cases hxy : x = y
        · have he : (x != y) = false := by simp [hxy]
          have HE := hide hxy
          clear hxy
          go_wp2
          go_quiet (fail)
          go_wp2
          go_roundw
          case rel => exact ⟨k + 1, _, by omega, by rw [take5 HX.out, take5 HY.out, HT.out, HE.out], rfl, rfl⟩
          case measure => simp [intOf]; omega
        · have he : (x != y) = true := by simpa using hxy
          have HE := hide hxy
          clear hxy
          go_wp2
          go_quiet (fail)
          go_wp2
          go_ret
          refine ⟨ret_bool ?_, dr2 _ _ _⟩
          symm
          apply decide_eq_false
          rintro rfl
          have := HX.out.symm.trans HY.out
          exact HE.out (by simpa using this)
      · go_wp2
        go_ret
        refine ⟨ret_bool ?_, n, rfl⟩
        symm
        apply decide_eq_true
        have := HT.out
        rwa [List.take_of_length_le (by omega), List.take_of_length_le (by omega)] at this
  · have hlb : ((a.length : Int) != (b.length : Int)) = true := by simp; omega
    go_enter Try.func32, Try.ntmps32
    go_wp2
    go_ret
    refine ⟨ret_bool ?_, 0, rfl⟩
    symm
    apply decide_eq_false
    rintro rfl
    exact hl rfl
#print axioms sameNumbers_any
end Go.Proofs.Ytggffiikfelbjaa
