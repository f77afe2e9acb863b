/- Walks: the document's right, symbols, Cost of layer 20. -/
import Derived.Test.YtggffiikfelbjaaLengths
namespace Go.Proofs.Ytggffiikfelbjaa
open Go.RowKit

set_option maxRecDepth 100000 in
set_option maxHeartbeats 2000000 in
theorem refRight_any (A : Option Addr) (ws : List Int) (c : Nat) (w : World) (h : Rd w w.heap.size A (ws.map (.int .u64))) (hlen : ws.length ≤ 9223372036854775807) :
    Calls Try.prog 54 #[.slice A ws.length c] w fun e w' => e = .returned (.bool (alphaB ws)) ∧ w' = w := by
  have H := hide h
  clear h
  by_cases h512 : ws.length ≤ 512
  · have ha : alphaB ws = !ws.any heavyB := by unfold alphaB; rw [decide_eq_true h512]; rfl
    have HA := hide ha
    have d0 : decide ((512 : Int) < (ws.length : Int)) = false := decide_eq_false (by omega)
    clear ha
    go_enter Try.func54, Try.ntmps54
    go_wp2_with fail
    go_loopw [10] (fun vi wr => ∃ k : Nat, k ≤ ws.length ∧ vi = .int .i64 k ∧ Hid ((ws.take k).any heavyB = false) ∧ w = wr) (fun i _ => ws.length - (intOf i).toNat)
    case atStart => exact ⟨0, by omega, rfl, hide (by simp), rfl⟩
    case round =>
      obtain ⟨k, hk, rfl, hno, rfl⟩ := hrel
      by_cases hlt : k < ws.length
      · obtain ⟨b, o, x, hAe, hb, hx, hcx⟩ := H.out.int hlt
        subst hAe
        have HX := hide hx
        clear hx
        by_cases g : 1099511627776 < x
        · have d1 : decide (1099511627776 < x) = true := decide_eq_true g
          have hf : alphaB ws = false := by rw [HA.out, any_of HX.out (show heavyB x = true from d1)]; rfl
          have HF := hide hf
          clear hf
          go_wp2_with fail
          go_ret
          exact ⟨by rw [HF.out]; rfl, rfl⟩
        · have d1 : decide (1099511627776 < x) = false := decide_eq_false g
          have hno2 : (ws.take (k + 1)).any heavyB = false := by rw [any_step HX.out, hno.out]; exact d1
          have HNo := hide hno2
          clear hno2
          go_wp2_with fail
          go_roundw
          case rel => exact ⟨k + 1, by omega, by go_num, HNo, by first | rfl | trivial⟩
          case measure => simp [intOf]; omega
      · have hf : alphaB ws = true := by
          have := hno.out
          rw [List.take_of_length_le (by omega)] at this
          rw [HA.out, this]; rfl
        have HF := hide hf
        clear hf
        go_wp2_with fail
        go_ret
        exact ⟨by rw [HF.out]; rfl, rfl⟩
  · have ha : alphaB ws = false := by unfold alphaB; rw [decide_eq_false h512]; rfl
    have HA := hide ha
    have d0 : decide ((512 : Int) < (ws.length : Int)) = true := decide_eq_true (by omega)
    clear ha
    go_enter Try.func54, Try.ntmps54
    go_wp2_with fail
    go_ret
    exact ⟨by rw [HA.out]; rfl, rfl⟩

set_option maxRecDepth 100000 in
set_option maxHeartbeats 4000000 in
theorem refSyms_any (A : Option Addr) (ws : List Int) (c : Nat) (w : World) (h : Rd w w.heap.size A (ws.map (.int .u64))) (hlen : ws.length ≤ 512) (hw0 : ∀ x ∈ ws, 0 ≤ x) :
    Calls Try.prog 55 #[.slice A ws.length c] w fun e w' => ∃ A' c', e = .returned (.slice A' (symL ws).length c') ∧ Rd w' w'.heap.size A' ((symL ws).map fun (x : Nat) => Value.int .i64 x) ∧ (∀ a, A' = some a → w.heap.size ≤ a.block) ∧ Below w.heap.size w w' := by
  obtain ⟨i0, hi, hz0, hz1, hz2⟩ := info_parts info_int
  have H := hide h
  clear h
  go_enter Try.func55, Try.ntmps55
  go_wp2_with fail
  go_loopw [3, 8] (fun v i wr => ∃ k : Nat, k ≤ ws.length ∧ i = .int .i64 k ∧ Hid (wr.ownsRow w.heap.size 3 1 v (symK ws k).length ((symK ws k).map fun (x : Nat) => Value.int .i64 x)) ∧ Below w.heap.size w wr) (fun _ i _ => ws.length - (intOf i).toNat)
  case atStart => exact ⟨0, by omega, rfl, World.ownsRow_nil _ _ _ _, Below.refl _ _⟩
  case round =>
    obtain ⟨k, hk, rfl, hown, hbe⟩ := hrel
    have hz := hbe.size
    by_cases hlt : k < ws.length
    · obtain ⟨b, o, x, hAx, hb, hx, hc0⟩ := H.out.int hlt
      subst hAx
      have hc := (hbe.cell (p := ⟨b, o + k, none⟩) hb).trans hc0
      have hx2 : ws.getD k 0 = x := by rw [List.getD_eq_getElem?_getD, hx]; rfl
      have HX := hide hx2
      have HX0 := hide (hw0 x (List.mem_of_getElem? hx))
      have hsl := symK_length ws k
      clear hx hc0 hx2
      by_cases hp : 0 < x
      · have dp : decide (0 < x) = true := decide_eq_true hp
        go_wp2_with (at_builtin; refine wpList_append_own _ rfl (.tmp 15) (.tmp 17) 22 rfl w.heap.size 3 i0 (.int .i64 0) 1 8 Try.underlying22 hi hz0 hz1 hz2 rfl (by decide) _ _ _ rfl (hown.out.alloc _) ⟨wr.heap.size, 0, none⟩ 1 1 [.int .i64 k] rfl rfl (cell_one_new _ _ _) (by intro u hu; simp at hu; subst hu; rfl) (by unfold maxLen; omega) (by omega) (by simp; omega) ?_; intro v' w2 hown2 hgr2 _)
        have hbe2 := ((hbe.alloc (by omega) (.cells #[.int .i64 k] 3))).grown hgr2 (by simp; omega) (fun g hg => by have := ((hown.out.alloc (.cells #[.int .i64 k] 3)).lt g hg).1; omega)
        have hst : symK ws (k + 1) = symK ws k ++ [k] := by rw [symK_step, HX.out, if_pos hp]
        go_roundw
        case rel => exact ⟨k + 1, by omega, by go_num, hide (by rw [hst, List.map_append, List.length_append]; exact hown2), hbe2⟩
        case measure => simp [intOf]; omega
      · have dp : decide (0 < x) = false := decide_eq_false hp
        have hst : symK ws (k + 1) = symK ws k := by rw [symK_step, HX.out, if_neg hp, List.append_nil]
        have HSt := hide hst
        clear hst
        go_wp2_with fail
        go_roundw
        case rel => exact ⟨k + 1, by omega, by go_num, hide (by rw [HSt.out]; exact hown.out), hbe⟩
        case measure => simp [intOf]; omega
    · obtain rfl : k = ws.length := by omega
      have hf := own_form3 hown.out
      have HO3 := hide hown.out
      clear hown
      obtain ⟨A', c', rfl⟩ := hf
      go_wp2_with fail
      go_ret
      exact ⟨A', c', rfl, (own_rdN HO3.out).1, (fun a ha => (HO3.out.lt a.block (by rw [ha]; rfl)).1), hbe⟩

set_option maxRecDepth 100000 in
set_option maxHeartbeats 2000000 in
theorem refCost_any (A O : Option Addr) (ws ls : List Int) (ca co : Nat) (w : World) (hA : Rd w w.heap.size A (ws.map (.int .u64))) (hO : Rd w w.heap.size O (ls.map (.int .i64))) (hla : ws.length ≤ 9223372036854775807) (_hlo : ls.length ≤ 9223372036854775807) (hws : ∀ x ∈ ws, 0 ≤ x) (hls : ∀ x ∈ ls, I64 x) :
    Calls Try.prog 29 #[.slice A ws.length ca, .slice O ls.length co] w (CostP ws ls w) := by
  have al := refRight_any A ws ca w hA hla
  have HA := hide hA
  have HO := hide hO
  have HW := hide (And.intro hws hls)
  clear hA hO hws hls
  by_cases ha : alphaB ws = true
  · obtain ⟨h512, hmax⟩ := alphaB_at ha
    rw [ha] at al
    have HAl := hide al
    have HM := hide hmax
    by_cases hlen : ws.length = ls.length
    · have hW : costW ws ls = if (ws.zip ls).any badC then 7 else 0 := by unfold costW; rw [if_pos ha, if_pos hlen]
      have HWt := hide hW
      have dl : ((ws.length : Int) != (ls.length : Int)) = false := by simp [hlen]
      have HL := hide hlen
      have hl2 : ls.length ≤ 512 := by omega
      have hl3 : ws.length ≤ ls.length := by omega
      have hl4 : ls.length ≤ ws.length := by omega
      clear al hmax hW hlen ha
      go_enter Try.func29, Try.ntmps29
      go_wp2_with (go_at_call 54; refine (Calls.mono HAl.out ?_); rintro e w1 ⟨rfl, hww⟩; replace hww := hww.symm; subst hww)
      go_loopw [6, 19] (fun vn vi wr => ∃ (k N : Nat), k ≤ ws.length ∧ vi = .int .i64 k ∧ vn = .int .u64 N ∧ Hid (((ws.zip ls).take k).any badC = false) ∧ Hid ((N : Int) = sumC ((ws.zip ls).take k)) ∧ N ≤ 16492674416640 * k ∧ w = wr) (fun _ i _ => ws.length - (intOf i).toNat)
      case atStart => exact ⟨0, 0, by omega, rfl, rfl, hide (by simp), hide (by simp [sumC]), by omega, rfl⟩
      case round =>
        obtain ⟨k, N, hk, rfl, rfl, hno, hN, hNb, rfl⟩ := hrel
        by_cases hlt : k < ws.length
        · obtain ⟨b, o, x, hAe, hb, hx, hcx⟩ := HA.out.int hlt
          obtain ⟨b2, o2, y, hOe, hb2, hy, hcy⟩ := HO.out.int (show k < ls.length by omega)
          subst hAe hOe
          have hx0 := HW.out.1 x (List.mem_of_getElem? hx)
          have hxm := HM.out x (List.mem_of_getElem? hx)
          obtain ⟨x, rfl⟩ := Int.eq_ofNat_of_zero_le hx0
          have hz := zip_at hx hy
          obtain ⟨hy1, hy2⟩ := HW.out.2 y (List.mem_of_getElem? hy)
          have HZ := hide hz
          clear hx hy hz
          have bad : badC ((x : Int), y) = true → costW ws ls = 7 := fun h => by rw [HWt.out, if_pos (any_of HZ.out h)]
          have HBad := hide bad
          clear bad
          by_cases g1 : y < 0
          · have d1 : decide (y < 0) = true := decide_eq_true g1
            have hc : costW ws ls = 7 := HBad.out (by simp [badC, g1])
            have HC := hide hc
            clear hc
            go_wp2_with fail
            go_ret2
            exact CostP.bad HC.out (by decide)
          · have d1 : decide (y < 0) = false := decide_eq_false g1
            obtain ⟨y, rfl⟩ := Int.eq_ofNat_of_zero_le (show 0 ≤ y by omega)
            by_cases g2 : 15 < y
            · have d2 : decide ((15 : Int) < (y : Int)) = true := decide_eq_true (by omega)
              have hc : costW ws ls = 7 := HBad.out (by have : (15 : Int) < (y : Int) := by omega
                                                        simp [badC, this])
              have HC := hide hc
              clear hc
              go_wp2_with fail
              go_ret2
              exact CostP.bad HC.out (by decide)
            · have d2 : decide ((15 : Int) < (y : Int)) = false := decide_eq_false (by omega)
              by_cases g3 : y = 0 ∧ 0 < x
              · obtain ⟨rfl, g3⟩ := g3
                have d3 : decide ((0 : Int) < (x : Int)) = true := decide_eq_true (by omega)
                have hc : costW ws ls = 7 := HBad.out (by simp [badC]; omega)
                have HC := hide hc
                clear hc
                go_wp2_with fail
                go_ret2
                exact CostP.bad HC.out (by decide)
              · have hgood : badC ((x : Int), (y : Int)) = false := by
                  unfold badC
                  simp only [Bool.or_eq_false_iff, Bool.and_eq_false_iff, decide_eq_false_iff_not]
                  refine ⟨⟨by omega, by omega⟩, ?_⟩
                  by_cases e : y = 0
                  · exact .inr (by omega)
                  · exact .inl (by omega)
                have hno2 : ((ws.zip ls).take (k + 1)).any badC = false := by rw [any_step HZ.out, hno.out, hgood]; rfl
                have HNo := hide hno2
                have hP : x * y ≤ 1099511627776 * 15 := Nat.mul_le_mul (by omega) (by omega)
                obtain ⟨V, hV⟩ : ∃ V, V = x * y := ⟨_, rfl⟩
                have hVI : (x : Int) * (y : Int) = (V : Int) := by rw [hV]; simp
                rw [← hV] at hP
                have HV := hide hV
                clear hV hgood hno2
                by_cases e0 : y = 0
                · have hx00 : x = 0 := by omega
                  subst e0
                  subst hx00
                  obtain rfl : V = 0 := by rw [HV.out]
                  clear hVI
                  go_wp2_with fail
                  go_roundw
                  case rel => exact ⟨k + 1, N, by omega, by go_num, by first | rfl | go_num, HNo, hide (by rw [sumC_step HZ.out, ← hN.out]; simp), by omega, by first | rfl | trivial⟩
                  case measure => simp [intOf]; omega
                · have d3 : (((y : Int)) == 0) = false := by simp; omega
                  clear g3
                  go_wp2_with fail
                  go_roundw
                  case rel => exact ⟨k + 1, N + V, by omega, by go_num, by go_num, HNo, hide (by rw [sumC_step HZ.out, ← hN.out]; simp [HV.out]), by omega, by first | rfl | trivial⟩
                  case measure => simp [intOf]; omega
        · have hc : costW ws ls = 0 := by
            have := hno.out
            rw [List.take_of_length_le (by rw [List.length_zip]; omega)] at this
            rw [HWt.out, this]; rfl
          have hn : costN ws ls = (N : Int) := by
            unfold costN
            rw [if_pos hc, hN.out, List.take_of_length_le (by rw [List.length_zip]; omega)]
          have HC := hide (And.intro hc hn)
          clear hc hn
          go_wp2_with fail
          go_ret2
          exact ⟨by rw [HC.out.1, HC.out.2]; rfl, rfl⟩
    · have hW : costW ws ls = 5 := by unfold costW; rw [if_pos ha, if_neg hlen]
      have dl : ((ws.length : Int) != (ls.length : Int)) = true := by simp; omega
      have HWt := hide hW
      clear al hmax hW hlen ha
      go_enter Try.func29, Try.ntmps29
      go_wp2_with (go_at_call 54; refine (Calls.mono HAl.out ?_); rintro e w1 ⟨rfl, hww⟩; replace hww := hww.symm; subst hww)
      go_ret2
      exact CostP.bad HWt.out (by decide)
  · have ha' : alphaB ws = false := by simpa using ha
    have hW : costW ws ls = 1 := by unfold costW; rw [if_neg ha]
    rw [ha'] at al
    have HAl := hide al
    have HWt := hide hW
    clear al hW ha ha'
    go_enter Try.func29, Try.ntmps29
    go_wp2_with (go_at_call 54; refine (Calls.mono HAl.out ?_); rintro e w1 ⟨rfl, hww⟩; replace hww := hww.symm; subst hww)
    go_ret2
    exact CostP.bad HWt.out (by decide)
#print axioms refCost_any
#print axioms refSyms_any
end Go.Proofs.Ytggffiikfelbjaa
