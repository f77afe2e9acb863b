/- Walks: pack.Cost. -/
import Derived.Test.YtggffiikfelbjaaPackA
namespace Go.Proofs.Ytggffiikfelbjaa
open Go.RowKit

/-- A length that no symbol of that weight may have. -/
def badC (p : Int × Int) : Bool := decide (p.2 < 0) || decide (15 < p.2) || (decide (p.2 = 0) && decide (0 < p.1))
def sumC (z : List (Int × Int)) : Int := (z.map fun p => p.1 * p.2).sum
/-- Why there is no cost. -/
def costW (ws ls : List Int) : Int := if alphaB ws then if ws.length = ls.length then if (ws.zip ls).any badC then 7 else 0 else 5 else 1
def costN (ws ls : List Int) : Int := if costW ws ls = 0 then sumC (ws.zip ls) else 0
/-- What Cost answers. -/
def CostP (ws ls : List Int) (w : World) (e : Ending) (w' : World) : Prop := e = .returned (.tuple #[.int .u64 (costN ws ls), .int .i64 (costW ws ls)]) ∧ w' = w
theorem CostP.bad {ws ls : List Int} {w : World} {k : Int} (h : costW ws ls = k) (hk : k ≠ 0) : CostP ws ls w (.returned (.tuple #[.int .u64 0, .int .i64 k])) w := by
  refine ⟨?_, rfl⟩
  unfold costN; rw [h, if_neg hk]
theorem sumC_step {z : List (Int × Int)} {k : Nat} {p : Int × Int} (h : z[k]? = some p) : sumC (z.take (k + 1)) = sumC (z.take k) + p.1 * p.2 := by
  unfold sumC
  rw [List.take_add_one, h, List.map_append, List.sum_append]
  simp
theorem zip_at {ws ls : List Int} {k : Nat} {x y : Int} (hx : ws[k]? = some x) (hy : ls[k]? = some y) : (ws.zip ls)[k]? = some (x, y) := by
  rw [List.getElem?_zip_eq_some]; exact ⟨hx, hy⟩
theorem alphaB_at {ws : List Int} (h : alphaB ws = true) : ws.length ≤ 512 ∧ ∀ x ∈ ws, x ≤ 1099511627776 := by
  unfold alphaB at h
  simp only [Bool.and_eq_true, decide_eq_true_eq, Bool.not_eq_true'] at h
  refine ⟨h.1, fun x hx => ?_⟩
  have := List.any_eq_false.1 h.2 x hx
  unfold heavyB at this
  simpa using this

set_option maxRecDepth 100000 in
set_option maxHeartbeats 2000000 in
theorem cost_any (A O : Option Addr) (ws ls : List Int) (ca co : Nat) (w : World) (hA : Rd w w.heap.size A (ws.map (.int .u64))) (hO : Rd w w.heap.size O (ls.map (.int .i64))) (hla : ws.length ≤ 9223372036854775807) (hlo : ls.length ≤ 9223372036854775807) (hws : ∀ x ∈ ws, 0 ≤ x) (hls : ∀ x ∈ ls, I64 x) :
    Calls Try.prog 28 #[.slice A ws.length ca, .slice O ls.length co] w (CostP ws ls w) := by
  have al := alphabet_any A ws ca w hA hla
  have HA := hide hA
  have HO := hide hO
  have HW := hide (And.intro hws hls)
  clear hA hO hws hls
  by_cases ha : alphaB ws = true
  · obtain ⟨h512, hmax⟩ := alphaB_at ha
    rw [ha] at al
    have HAl := hide al
    have HM := hide hmax
    by_cases hlen : ws.length = ls.length
    · have hW : costW ws ls = if (ws.zip ls).any badC then 7 else 0 := by unfold costW; rw [if_pos ha, if_pos hlen]
      have HWt := hide hW
      have dl : ((ws.length : Int) != (ls.length : Int)) = false := by simp [hlen]
      have HL := hide hlen
      have hl2 : ls.length ≤ 512 := by omega
      have hl3 : ws.length ≤ ls.length := by omega
      have hl4 : ls.length ≤ ws.length := by omega
      clear al hmax hW hlen ha
      go_enter Try.func28, Try.ntmps28
      go_wp2_with (go_at_call 49; refine (Calls.mono HAl.out ?_); rintro e w1 ⟨rfl, hww⟩; replace hww := hww.symm; subst hww)
      go_loopw [6, 22] (fun vn vi wr => ∃ (k N : Nat), k ≤ ws.length ∧ vi = .int .i64 k ∧ vn = .int .u64 N ∧ Hid (((ws.zip ls).take k).any badC = false) ∧ Hid ((N : Int) = sumC ((ws.zip ls).take k)) ∧ N ≤ 16492674416640 * k ∧ w = wr) (fun _ i _ => ws.length - (intOf i).toNat)
      case atStart => exact ⟨0, 0, by omega, rfl, rfl, hide (by simp), hide (by simp [sumC]), by omega, rfl⟩
      case round =>
        obtain ⟨k, N, hk, rfl, rfl, hno, hN, hNb, rfl⟩ := hrel
        by_cases hlt : k < ws.length
        · obtain ⟨b, o, x, hAe, hb, hx, hcx⟩ := HA.out.int hlt
          obtain ⟨b2, o2, y, hOe, hb2, hy, hcy⟩ := HO.out.int (show k < ls.length by omega)
          subst hAe hOe
          have hx0 := HW.out.1 x (List.mem_of_getElem? hx)
          have hxm := HM.out x (List.mem_of_getElem? hx)
          obtain ⟨x, rfl⟩ := Int.eq_ofNat_of_zero_le hx0
          have hz := zip_at hx hy
          obtain ⟨hy1, hy2⟩ := HW.out.2 y (List.mem_of_getElem? hy)
          have HZ := hide hz
          clear hx hy hz
          have bad : badC ((x : Int), y) = true → costW ws ls = 7 := fun h => by rw [HWt.out, if_pos (any_of HZ.out h)]
          have HBad := hide bad
          clear bad
          by_cases g1 : y < 0
          · have d1 : decide (y < 0) = true := decide_eq_true g1
            have hc : costW ws ls = 7 := HBad.out (by simp [badC, g1])
            have HC := hide hc
            clear hc
            go_wp2_with fail
            go_ret2
            exact CostP.bad HC.out (by decide)
          · have d1 : decide (y < 0) = false := decide_eq_false g1
            obtain ⟨y, rfl⟩ := Int.eq_ofNat_of_zero_le (show 0 ≤ y by omega)
            by_cases g2 : 15 < y
            · have d2 : decide ((15 : Int) < (y : Int)) = true := decide_eq_true (by omega)
              have hc : costW ws ls = 7 := HBad.out (by have : (15 : Int) < (y : Int) := by omega
                                                        simp [badC, this])
              have HC := hide hc
              clear hc
              go_wp2_with fail
              go_ret2
              exact CostP.bad HC.out (by decide)
            · have d2 : decide ((15 : Int) < (y : Int)) = false := decide_eq_false (by omega)
              by_cases g3 : y = 0 ∧ 0 < x
              · obtain ⟨rfl, g3⟩ := g3
                have d3 : decide ((0 : Int) < (x : Int)) = true := decide_eq_true (by omega)
                have hc : costW ws ls = 7 := HBad.out (by simp [badC]; omega)
                have HC := hide hc
                clear hc
                go_wp2_with fail
                go_ret2
                exact CostP.bad HC.out (by decide)
              · have hgood : badC ((x : Int), (y : Int)) = false := by
                  unfold badC
                  simp only [Bool.or_eq_false_iff, Bool.and_eq_false_iff, decide_eq_false_iff_not]
                  refine ⟨⟨by omega, by omega⟩, ?_⟩
                  by_cases e : y = 0
                  · exact .inr (by omega)
                  · exact .inl (by omega)
                have hno2 : ((ws.zip ls).take (k + 1)).any badC = false := by rw [any_step HZ.out, hno.out, hgood]; rfl
                have HNo := hide hno2
                have hP : x * y ≤ 1099511627776 * 15 := Nat.mul_le_mul (by omega) (by omega)
                obtain ⟨V, hV⟩ : ∃ V, V = x * y := ⟨_, rfl⟩
                have hVI : (x : Int) * (y : Int) = (V : Int) := by rw [hV]; simp
                rw [← hV] at hP
                have HV := hide hV
                clear hV hgood hno2
                by_cases e0 : y = 0
                · have hx00 : x = 0 := by omega
                  subst e0
                  subst hx00
                  obtain rfl : V = 0 := by rw [HV.out]
                  clear hVI
                  go_wp2_with fail
                  go_roundw
                  case rel => exact ⟨k + 1, N, by omega, by go_num, by first | rfl | go_num, HNo, hide (by rw [sumC_step HZ.out, ← hN.out]; simp), by omega, by first | rfl | trivial⟩
                  case measure => simp [intOf]; omega
                · have d3 : (((y : Int)) == 0) = false := by simp; omega
                  clear g3
                  go_wp2_with fail
                  go_roundw
                  case rel => exact ⟨k + 1, N + V, by omega, by go_num, by go_num, HNo, hide (by rw [sumC_step HZ.out, ← hN.out]; simp [HV.out]), by omega, by first | rfl | trivial⟩
                  case measure => simp [intOf]; omega
        · have hc : costW ws ls = 0 := by
            have := hno.out
            rw [List.take_of_length_le (by rw [List.length_zip]; omega)] at this
            rw [HWt.out, this]; rfl
          have hn : costN ws ls = (N : Int) := by
            unfold costN
            rw [if_pos hc, hN.out, List.take_of_length_le (by rw [List.length_zip]; omega)]
          have HC := hide (And.intro hc hn)
          clear hc hn
          go_wp2_with fail
          go_ret2
          exact ⟨by rw [HC.out.1, HC.out.2]; rfl, rfl⟩
    · have hW : costW ws ls = 5 := by unfold costW; rw [if_pos ha, if_neg hlen]
      have dl : ((ws.length : Int) != (ls.length : Int)) = true := by simp; omega
      have HWt := hide hW
      clear al hmax hW hlen ha
      go_enter Try.func28, Try.ntmps28
      go_wp2_with (go_at_call 49; refine (Calls.mono HAl.out ?_); rintro e w1 ⟨rfl, hww⟩; replace hww := hww.symm; subst hww)
      go_ret2
      exact CostP.bad HWt.out (by decide)
  · have ha' : alphaB ws = false := by simpa using ha
    have hW : costW ws ls = 1 := by unfold costW; rw [if_neg ha]
    rw [ha'] at al
    have HAl := hide al
    have HWt := hide hW
    clear al hW ha ha'
    go_enter Try.func28, Try.ntmps28
    go_wp2_with (go_at_call 49; refine (Calls.mono HAl.out ?_); rintro e w1 ⟨rfl, hww⟩; replace hww := hww.symm; subst hww)
    go_ret2
    exact CostP.bad HWt.out (by decide)
#print axioms cost_any
end Go.Proofs.Ytggffiikfelbjaa
