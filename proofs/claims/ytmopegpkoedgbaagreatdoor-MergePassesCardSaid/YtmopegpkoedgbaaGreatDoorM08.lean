/- Lemmas for the row: DskBw. -/
import Derived.Test.YtmopegpkoedgbaaGreatDoorM06
import Derived.Test.YtmopegpkoedgbaaGreatDoorM07
import Derived.LoopIn
import Derived.LoopNIn
import Derived.OwnWalkIn
import Derived.Shelf.Abstract
import Derived.Shelf.RegionOpen
import Derived.TacticsInMore
set_option linter.unusedVariables false
set_option linter.unusedSimpArgs false
/- Walk: slices.Backward at writes that wait, and its iterator, which may be stopped. -/
namespace Go.Proofs.YtmopegpkoedgbaaGreatDoor
open Go.RowKit Go.Shelf

set_option maxRecDepth 100000 in
set_option maxHeartbeats 2000000 in
theorem backW_any (a : Option Addr) (len cap : Nat) (w : World) :
    Calls Tryz.prog 129 #[.slice a len cap] w fun e w' => e = .returned (.func (.func 166) #[] #[.pointer (some ⟨w.heap.size, 0, none⟩)]) ∧ w' = w.alloc (.cells #[.slice a len cap] 23) := by
  go_enter Tryz.func129, Tryz.ntmps129
  go_wp2_with fail
  go_ret
  exact ⟨rfl, rfl⟩

attribute [local go_sem] Oper.semAt_some
set_option maxRecDepth 100000 in
set_option maxHeartbeats 4000000 in
theorem backW_iter (base B cap : Nat) (A : Option Addr) (ws : List Wt) (l m : Nat) (hm1 : 1 ≤ m) (W1 : World) (hlen : ws.length ≤ 1000000) (P : Nat → World → Prop) (Out : World → Prop)
    (hP : ∀ k W, P k W → W.cell? ⟨B, 0, none⟩ = some (.slice A ws.length cap) ∧ Rd W W.heap.size A (flatW ws)) (h0 : P 0 W1)
    (hY : ∀ k x W, k < ws.length → ws[ws.length - 1 - k]? = some x → P k W → Two base W1 W → YieldAt Fence.wide (m - 1) Tryz.prog l #[.int .i64 ((ws.length - 1 - k : Nat) : Int), .agg #[.string x.nm, .int .i64 x.sec, .string x.dt]] W fun e W' => (e = .returned (.bool true) ∧ P (k + 1) W' ∧ Two base W1 W') ∨ (e = .returned (.bool false) ∧ Out W')) :
    CallsIn Fence.wide m Tryz.prog 166 #[.func (.yield l) #[] #[], .pointer (some ⟨B, 0, none⟩)] W1 fun e W' => (∃ v, e = .returned v) ∧ ((P ws.length W' ∧ Two base W1 W') ∨ Out W') := by
  have HY := hide hY
  have HP := hide hP
  have H0 := hide h0
  have c1 := (hP 0 W1 h0).1
  clear hY hP h0
  refine callsIn_of_wp Tryz.func166 rfl trivial ?_ rfl
  simp only [Tryz.ntmps166, List.size_toArray, List.length_cons, List.length_nil, Nat.reduceAdd, Nat.reduceSub, Array.replicate_succ, Array.replicate_zero, List.push_toArray, List.append_toArray, List.nil_append, List.cons_append]
  gi_wp2
  gi_loopw [3] (fun vi wr => ∃ (k : Nat), k ≤ ws.length ∧ vi = .int .i64 ((ws.length : Int) - 1 - (k : Int)) ∧ Hid (P k wr) ∧ Hid (Two base W1 wr)) (fun vi _ => (intOf vi + 1).toNat)
  case atStart => exact ⟨0, by omega, by simp, H0, hide (Two.refl _ _)⟩
  case round =>
    clear H0 c1
    obtain ⟨k, hk, rfl, hJ, hF⟩ := hrel
    by_cases hlt : k < ws.length
    · obtain ⟨i, hi⟩ : ∃ i, i = ws.length - 1 - k := ⟨_, rfl⟩
      have hiI : (ws.length : Int) - 1 - (k : Int) = (i : Int) := by omega
      have hil : i < ws.length := by omega
      obtain ⟨x, hx⟩ : ∃ x, ws[i]? = some x := ⟨ws[i], List.getElem?_eq_getElem hil⟩
      obtain ⟨c1, hrd⟩ := HP.out k wr hJ.out
      obtain ⟨b, o, rfl, hb, x1, x2, x3⟩ := wt_cells hrd hx
      have hy := HY.out k x wr hlt (by rw [← hi]; exact hx) hJ.out hF.out
      rw [← hi] at hy
      obtain ⟨fn, tmps, assign, body, hy, hR⟩ := hy
      have HI := hide hi
      clear hi hx hrd
      have d0 : decide ((0 : Int) ≤ (i : Int)) = true := decide_eq_true (by omega)
      gi_wp2
      refine hR.mono ?_
      rintro e W3 (⟨rfl, hJ3, hF3⟩ | ⟨rfl, hO⟩)
      · have HJ3 := hide hJ3
        have HF3 := hide hF3
        clear hJ3 hF3 hR
        gi_wp2
        go_roundw
        case rel => exact ⟨k + 1, by omega, v_int (by omega), HJ3, HF3⟩
        case measure => simp [intOf]; omega
      · have HO := hide hO
        clear hR hO
        gi_wp2
        refine bodyPost_ret (results_none rfl _ _ _) rfl ?_
        exact ⟨⟨_, rfl⟩, .inr HO.out⟩
    · obtain rfl : k = ws.length := by omega
      have d0 : decide ((0 : Int) ≤ (ws.length : Int) - 1 - (ws.length : Int)) = false := decide_eq_false (by omega)
      have d1 : (ws.length : Int) - 1 - (ws.length : Int) = -1 := by omega
      gi_wp2
      go_end0
      exact ⟨⟨_, rfl⟩, .inl ⟨hJ.out, hF.out⟩⟩
end Go.Proofs.YtmopegpkoedgbaaGreatDoor
