/- Walk: wringerlaw21.CanonLengths. -/
import Derived.Test.YtggffiikfelbjaaLenOK
namespace Go.Proofs.Ytggffiikfelbjaa
open Go.RowKit

set_option maxRecDepth 100000 in
set_option maxHeartbeats 4000000 in
theorem canonLengths_any (A : Option Addr) (ws : List Int) (ca : Nat) (w : World) (hA : Rd w w.heap.size A (ws.map (.int .u64))) (hla : ws.length ≤ 9223372036854775807) (hws : ∀ x ∈ ws, U64 x) :
    Calls Try.prog 11 #[.slice A ws.length ca] w fun e w' => e = .returned (.bool true) ∧ Below w.heap.size w w' := by
  have HA := hide hA
  have hws0 : ∀ x ∈ ws, 0 ≤ x := fun x hx => (hws x hx).1
  by_cases h0 : packW ws 15 = 0
  · obtain ⟨ha, L, hL, h1, h15, h2⟩ := packW_zero h0
    obtain rfl : L = 15 := by omega
    obtain ⟨h512, _⟩ := alphaB_at ha
    obtain ⟨q, ok⟩ := packOK ws h1 h2
    have ln := fun (W : World) (hb : Below w.heap.size w W) => lengths_yes A ws ca 15 W ((HA.out.below hb).more hb.size) hla hws0 ⟨by omega, by omega⟩ h0
    have hl512 : (packI ws 15).length ≤ 9223372036854775807 := by rw [packI_length]; exact hla
    have ck := fun (A' : Option Addr) (c : Nat) (W : World) (hr : Rd W W.heap.size A' ((packI ws 15).map (.int .i64))) => canonCheck_any A' (packI ws 15) c W hr hl512
    have hok := ok.right h512
    have hokw : okW (packI ws 15) = 0 := by unfold okW; rw [hok]; rfl
    rw [show (15 : Int).toNat = 15 from rfl] at ln
    rw [hokw, packI_length] at ck
    have HLn := hide ln
    have HCk := hide ck
    have HOk := hide ok
    have HWs := hide hws0
    have HU := hide hws
    have HL := hide hl512
    clear ln ck hok hokw ha h0 h1 h15 h2 hL ok hA hws hws0 hl512
    go_enter Try.func11, Try.ntmps11
    go_wp2_with (first
      | (go_at_call 12; refine (Calls.mono (lives21 w) ?_); rintro e w1 ⟨rfl, hb1⟩)
      | (go_at_call 26; refine (Calls.mono (HLn.out _ hb1) ?_); rintro e w2 ⟨⟨A2, c2, rfl, hr2, _⟩, hb2⟩; have hb2 := hb1.trans (hb2.mono hb1.size); have HR2 := hide hr2; clear hr2)
      | (go_at_call 18; refine (Calls.mono (HCk.out A2 c2 w2 HR2.out) ?_); rintro e w3 ⟨rfl, hww⟩; replace hww := hww.symm; subst hww))
    have HB2 := hide hb2
    go_loopw [26] (fun vi wr => ∃ k : Nat, k ≤ ws.length ∧ vi = .int .i64 k ∧ Below w.heap.size w wr ∧ Below w2.heap.size w2 wr) (fun i _ => ws.length - (intOf i).toNat)
    case atStart => exact ⟨0, by omega, rfl, HB2.out, Below.refl _ _⟩
    case round =>
      obtain ⟨k, hk, rfl, hbw, hb2w⟩ := hrel
      by_cases hlt : k < ws.length
      · obtain ⟨b, o, x, hAe, hb, hx, hcx0⟩ := HA.out.int hlt
        subst hAe
        have hcx := (hbw.cell (p := ⟨b, o + k, none⟩) hb).trans hcx0
        have hx2 : ws.getD k 0 = x := by rw [List.getD_eq_getElem?_getD, hx]; rfl
        have hx0 := HWs.out x (List.mem_of_getElem? hx)
        have wrc := fun (g : Nat) (W : World) (hW : Below w2.heap.size w2 W) (hk1 : Bk W g 23 #[.int .u64 k]) =>
          cwrite_any A2 (some ⟨g, 0, none⟩) (packI ws 15) [(k : Int)] c2 1 ⟨#[]⟩ 0 W ((HR2.out.below hW).more hW.size) (bkRd hk1) HL.out (by simp) (fun y hy => by
            obtain rfl : y = (k : Int) := by simpa using hy
            exact ⟨by omega, by omega⟩) ⟨by omega, by omega⟩ (by decide)
        rcases (show x = 0 ∨ 0 < x by omega) with h | h
        · subst h
          have hw := HOk.out.none h512 hlt hx2
          rw [hw, packI_length] at wrc
          have HWr := hide wrc
          clear wrc hw hx hx2 hx0 hcx0
          have hbA := hbw.alloc hbw.size (.cells #[.int .u64 (k : Int)] 23)
          have hbB := hb2w.alloc hb2w.size (.cells #[.int .u64 (k : Int)] 23)
          have hkn := Bk.new wr 23 #[.int .u64 (k : Int)]
          have HKn := hide hkn
          have HbB := hide hbB
          have HbA := hide hbA
          clear hbA hbB hkn
          go_wp2_with (go_at_call 20; refine (Calls.mono (HWr.out wr.heap.size _ HbB.out HKn.out) ?_); rintro e w4 ⟨s', n', rfl, -, -, -, hb4⟩; have hbC := HbA.out.trans (hb4.mono HbA.out.size); have hbD := HbB.out.trans (hb4.mono HbB.out.size); have HbC := hide hbC; have HbD := hide hbD; obtain ⟨p0, p1⟩ := two_cells (Bk.new w4 35 #[.string s', .int .i64 n']); clear hbC hbD hb4)
          go_roundw
          case rel => exact ⟨k + 1, by omega, by go_num, HbC.out.alloc HbC.out.size _, HbD.out.alloc HbD.out.size _⟩
          case measure => simp [intOf]; omega
        · obtain ⟨hw, hrd0⟩ := HOk.out.some h512 hlt (by rw [hx2]; exact h)
          have hx0b : (x == 0) = false := by simp; omega
          have hx0c : decide (x = 0) = false := decide_eq_false (by omega)
          rw [hw, packI_length] at wrc
          have rdc := fun (s' : ByteArray) (n' : Int) (hbs : Bs s' n' (codeB (packI ws 15) k)) (W : World) (hW : Below w2.heap.size w2 W) =>
            read_any A2 (packI ws 15) c2 s' n' 0 W ((HR2.out.below hW).more hW.size) HL.out ⟨by have := rightB_n hbs.1; omega, by have := rightB_n hbs.1; omega⟩ ⟨by omega, by omega⟩ (by have := hbs.len; omega)
          obtain ⟨C, hC⟩ : ∃ C, C = codeB (packI ws 15) k := ⟨_, rfl⟩
          rw [← hC] at wrc hrd0
          have rdd : ∀ (s' : ByteArray) (n' : Int) (W : World), Bs s' n' C → Below w2.heap.size w2 W → Calls Try.prog 22 #[bstr s' n', .int .i64 0, .slice A2 ws.length c2] W fun e w' => e = .returned (.tuple #[.int .u64 k, .int .i64 n', .int .i64 0]) ∧ Below W.heap.size W w' := fun s' n' W hbs hW => by
            have := rdc s' n' (by rw [← hC]; exact hbs) W hW
            rw [hrd0 s' n' hbs, packI_length] at this
            exact this
          have HWr := hide wrc
          have HRd := hide rdd
          have hbA := hbw.alloc hbw.size (.cells #[.int .u64 (k : Int)] 23)
          have hbB := hb2w.alloc hb2w.size (.cells #[.int .u64 (k : Int)] 23)
          have hkn := Bk.new wr 23 #[.int .u64 (k : Int)]
          have HKn := hide hkn
          have HbB := hide hbB
          have HbA := hide hbA
          clear hbA hbB hkn wrc rdc rdd hrd0 hw hx hx2 hx0 hcx0 hC
          go_wp2_with (first
            | (go_at_call 20; refine (Calls.mono (HWr.out wr.heap.size _ HbB.out HKn.out) ?_); rintro e w4 ⟨s', n', rfl, hbs, -, -, hb4⟩; have hbs := hbs rfl; have HBs := hide hbs; have hbC := HbA.out.trans (hb4.mono HbA.out.size); have hbD := HbB.out.trans (hb4.mono HbB.out.size); have hbC := hbC.alloc hbC.size (.cells #[.string s', .int .i64 n'] 35); have hbD := hbD.alloc hbD.size (.cells #[.string s', .int .i64 n'] 35); have HbC := hide hbC; have HbD := hide hbD; have kb := Bk.new w4 35 #[.string s', .int .i64 n']; obtain ⟨p0, p1⟩ := two_cells kb; have KB := hide kb; clear hbC hbD hb4 hbs kb)
            | (go_at_call 22; refine (Calls.mono (HRd.out s' n' _ HBs.out HbD.out) ?_); rintro e w5 ⟨rfl, hb5⟩; have kb5 := KB.out.keep hb5; obtain ⟨r0, r1⟩ := two_cells kb5; have hbE := HbC.out.trans (hb5.mono HbC.out.size); have hbF := HbD.out.trans (hb5.mono HbD.out.size)))
          go_roundw
          case rel => exact ⟨k + 1, by omega, by go_num, hbE, hbF⟩
          case measure => simp [intOf]; omega
      · obtain rfl : k = ws.length := by omega
        go_wp2_with fail
        go_ret
        exact ⟨rfl, hbw⟩
  · obtain ⟨v, hv⟩ : ∃ v, v = packW ws 15 := ⟨_, rfl⟩
    have ln := fun (W : World) (hb : Below w.heap.size w W) => lengths_no A ws ca 15 W ((HA.out.below hb).more hb.size) hla hws0 ⟨by omega, by omega⟩ hv.symm (by rw [hv]; exact h0)
    have hvb : (v != 0) = true := by rw [hv]; simpa using h0
    have HLn := hide ln
    clear ln hv h0 hA hws hws0
    go_enter Try.func11, Try.ntmps11
    go_wp2_with (first | (go_at_call 12; refine (Calls.mono (lives21 w) ?_); rintro e w1 ⟨rfl, hb1⟩) | (go_at_call 26; refine (Calls.mono (HLn.out _ hb1) ?_); rintro e w2 ⟨rfl, hb2⟩; have hb2 := hb1.trans (hb2.mono hb1.size)))
    go_ret
    exact ⟨rfl, hb2⟩
#print axioms canonLengths_any
end Go.Proofs.Ytggffiikfelbjaa
