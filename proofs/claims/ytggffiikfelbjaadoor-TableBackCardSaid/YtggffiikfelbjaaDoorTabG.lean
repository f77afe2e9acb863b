/- Walk: (*table.reader).next. -/
import Derived.Test.YtggffiikfelbjaaDoorTabF
namespace Go.Proofs.YtggffiikfelbjaaDoor
open Go.RowKit

/-- A sentinel of errors.New's make. -/
abbrev ers (q : Addr) : Value := .iface 81 (.pointer (some q))
theorem Sents.fr {w w' : World} {e0 e1 : Value} {S : Nat → Prop} (h : Sents w e0 e1) (hf : Fr S w w') (hS : ∀ g, g < 2 → ¬ S g) : Sents w' e0 e1 :=
  ⟨hf.cell (hS 0 (by decide)) h.1, hf.cell (hS 1 (by decide)) h.2⟩
/-- A bit is read. -/
theorem take_bit (p : Nat) (s : ByteArray) (N a : Nat) (e0 e1 : Value) (w : World) (hr : Rdr w p s N a) (hS : Sents w e0 e1) (hN : N ≤ 1048576) (hs : s.size = (N + 7) / 8) (ha : a < N) {b : Int} (hb : ((getN s a 1 : Nat) : Int) = b) :
    Calls Tryd.prog 25 #[.pointer (some ⟨p, 0, none⟩), .int .i64 1] w fun e w' => e = .returned (.tuple #[.int .i64 b, .nilIface]) ∧ Rdr w' p s N (a + 1) ∧ Fr (fun g => g = p) w w' := by
  refine Calls.mono (take_any p s N a 1 e0 e1 w hr hS hN hs (by omega) (by decide)) ?_
  rintro e w' (⟨h, _⟩ | ⟨_, rfl, h, hf⟩)
  · omega
  · rw [hb]; exact ⟨rfl, h, hf⟩
theorem take_no (p : Nat) (s : ByteArray) (N a k : Nat) (e0 e1 : Value) (w : World) (hr : Rdr w p s N a) (hS : Sents w e0 e1) (hN : N ≤ 1048576) (hs : s.size = (N + 7) / 8) (ha : a ≤ N) (hk : k ≤ 4) (hno : N < a + k) :
    Calls Tryd.prog 25 #[.pointer (some ⟨p, 0, none⟩), .int .i64 k] w fun e w' => e = .returned (.tuple #[.int .i64 0, e0]) ∧ ∃ j, w' = w.drewN j := by
  refine Calls.mono (take_any p s N a k e0 e1 w hr hS hN hs ha hk) ?_
  rintro e w' (⟨_, rfl, h⟩ | ⟨h, _⟩)
  · exact ⟨rfl, h⟩
  · omega
/-- What next answers. -/
def RNextP (p : Nat) (s : ByteArray) (N : Nat) (x : Int × Nat × List Bool) (e0 e1 : Value) (w : World) (e : Ending) (w' : World) : Prop :=
  Fr (fun g => g = p) w w' ∧
  ((x.1 = 0 ∧ x.2.1 ≤ 15 ∧ ∃ a, a ≤ N ∧ x.2.2 = (bitsL s N).drop a ∧ e = .returned (.tuple #[.int .i64 (x.2.1 : Nat), .nilIface]) ∧ Rdr w' p s N a) ∨
   (x.1 = 5 ∧ ∃ v : Int, e = .returned (.tuple #[.int .i64 v, e0])) ∨ (x.1 = 7 ∧ ∃ v : Int, e = .returned (.tuple #[.int .i64 v, e1])))

set_option maxRecDepth 100000 in
set_option maxHeartbeats 2000000 in
theorem tnext_any (p : Nat) (s : ByteArray) (N a0 now0 : Nat) (q0 q1 : Addr) (w : World) (hr : Rdr w p s N a0) (hS : Sents w (ers q0) (ers q1)) (hN : N ≤ 1048576) (hs : s.size = (N + 7) / 8) (ha : a0 ≤ N) (hn : now0 ≤ 15) (hp : 2 ≤ p) :
    Calls Tryd.prog 26 #[.pointer (some ⟨p, 0, none⟩), .int .i64 now0] w (RNextP p s N (nextT ((bitsL s N).drop a0) now0 0) (ers q0) (ers q1) w) := by
  obtain ⟨X, hX⟩ : ∃ X, X = nextT ((bitsL s N).drop a0) now0 0 := ⟨_, rfl⟩
  rw [← hX]
  have HX := hide hX
  have HR := hide hr
  have HS := hide hS
  have HSz := hide hs
  clear hX hr hS hs
  go_enter Tryd.func26, Tryd.ntmps26
  go_wp2_with fail
  go_loopw [1, 6] (fun nw way wr => ∃ (a now : Nat) (wy : Int), nw = .int .i64 now ∧ way = .int .i64 wy ∧ a ≤ N ∧ now ≤ 15 ∧ (wy = 0 ∨ wy = 1 ∨ wy = -1) ∧ Hid (Rdr wr p s N a) ∧ Hid (Sents wr (ers q0) (ers q1)) ∧ Hid (Fr (fun g => g = p) w wr) ∧ Hid (nextT ((bitsL s N).drop a) now wy = X)) (fun _ _ wr => N - (match wr.cell? ⟨p, 2, none⟩ with | some (.int _ a) => a.toNat | _ => 0))
  case atStart => exact ⟨a0, now0, 0, rfl, rfl, ha, hn, .inl rfl, HR, HS, hide (Fr.refl _ _), hide HX.out.symm⟩
  case round =>
    clear HR HS HX
    obtain ⟨a, now, wy, rfl, rfl, haN, hnow, hwy, HR, HS, HF, HX⟩ := hrel
    have hm : wr.cell? ⟨p, 2, none⟩ = some (.int .i64 a) := by have := HR.out.cell 2; simpa using this
    have HM := hide hm
    clear hm
    by_cases g : a < N
    · have sents : ∀ w1, Fr (fun g => g = p) wr w1 → Sents w1 (ers q0) (ers q1) := fun w1 h => HS.out.fr h (fun g h1 h2 => by omega)
      have HSn := hide sents
      clear sents
      cases hb : bitAt s a with
      | false =>
        have T1 := take_bit p s N a (ers q0) (ers q1) wr HR.out HS.out hN HSz.out g (b := 0) (by rw [getN_one, hb]; rfl)
        have HT1 := hide T1
        have hx := HX.out
        rw [next_one g hb] at hx
        have HX2 := hide hx
        clear T1 hx hb
        go_wp2_with (go_at_call 25; refine (Calls.mono HT1.out ?_); rintro e w1 ⟨rfl, hr1, hf1⟩; have HR1 := hide hr1; have HF1 := hide hf1; clear hr1 hf1)
        go_ret2
        exact ⟨HF.out.trans HF1.out (fun _ h => .inl h), .inl (by rw [← HX2.out]; exact ⟨rfl, hnow, a + 1, g, rfl, rfl, HR1.out⟩)⟩
      | true =>
        have T1 := take_bit p s N a (ers q0) (ers q1) wr HR.out HS.out hN HSz.out g (b := 1) (by rw [getN_one, hb]; rfl)
        have HT1 := hide T1
        have HB := hide hb
        clear T1 hb
        by_cases g2 : a + 1 < N
        · cases hb2 : bitAt s (a + 1) with
          | true =>
            have hx := HX.out
            rw [next_down g2 HB.out hb2] at hx
            have T2 : ∀ w1, Rdr w1 p s N (a + 1) → Sents w1 (ers q0) (ers q1) → _ := fun w1 h1 h2 => take_bit p s N (a + 1) (ers q0) (ers q1) w1 h1 h2 hN HSz.out g2 (b := 1) (by rw [getN_one, hb2]; rfl)
            have HT2 := hide T2
            have HX2 := hide hx
            clear T2 hx hb2
            by_cases gb : now = 0 ∨ wy = 1
            · have hx := HX2.out
              rw [if_pos gb] at hx
              have HX3 := hide hx
              clear hx
              have fin : ∀ (w2 : World) (v : Int) (e : Ending), Fr (fun g => g = p) wr w2 → e = .returned (.tuple #[.int .i64 v, ers q1]) → RNextP p s N X (ers q0) (ers q1) w e w2 := fun w2 v e h he => ⟨HF.out.trans h (fun _ h => .inl h), .inr (.inr (by rw [← HX3.out]; exact ⟨rfl, v, he⟩))⟩
              have HFin := hide fin
              clear fin
              by_cases ge : now = 0
              · subst ge
                go_wp2_with (first | (go_at_call 25; refine (Calls.mono HT1.out ?_); rintro e w1 ⟨rfl, hr1, hf1⟩; have HR1 := hide hr1; have HF1 := hide hf1; have HS1 := hide (HSn.out _ hf1); clear hr1 hf1) | (go_at_call 25; refine (Calls.mono (HT2.out _ HR1.out HS1.out) ?_); rintro e w2 ⟨rfl, hr2, hf2⟩; have HR2 := hide hr2; have HF2 := hide (HF1.out.trans hf2 (fun _ h => .inl h)); have HS2 := hide (HSn.out _ HF2.out); have hs2 : w2.cell? ⟨1, 0, none⟩ = some (ers q1) := HS2.out.2; clear hr2 hf2))
                go_region
                go_wp2_with fail
                go_ret2
                exact HFin.out _ _ _ (HF2.out.drewN _) rfl
              · obtain rfl : wy = 1 := gb.resolve_left ge
                have d0 : decide ((now : Int) + - 1 < 0) = false := decide_eq_false (by omega)
                have d1 : decide ((15 : Int) < (now : Int) + - 1) = false := decide_eq_false (by omega)
                go_wp2_with (first | (go_at_call 25; refine (Calls.mono HT1.out ?_); rintro e w1 ⟨rfl, hr1, hf1⟩; have HR1 := hide hr1; have HF1 := hide hf1; have HS1 := hide (HSn.out _ hf1); clear hr1 hf1) | (go_at_call 25; refine (Calls.mono (HT2.out _ HR1.out HS1.out) ?_); rintro e w2 ⟨rfl, hr2, hf2⟩; have HR2 := hide hr2; have HF2 := hide (HF1.out.trans hf2 (fun _ h => .inl h)); have HS2 := hide (HSn.out _ HF2.out); have hs2 : w2.cell? ⟨1, 0, none⟩ = some (ers q1) := HS2.out.2; clear hr2 hf2))
                go_region
                go_wp2_with fail
                go_ret2
                exact HFin.out _ _ _ (HF2.out.drewN _) rfl
            · have hx := HX2.out
              rw [if_neg gb] at hx
              have HX3 := hide hx
              clear hx
              have d0 : decide ((now : Int) + - 1 < 0) = false := decide_eq_false (by omega)
              have d1 : decide ((15 : Int) < (now : Int) + - 1) = false := decide_eq_false (by omega)
              have d2 : decide (wy = 1) = false := decide_eq_false (by omega)
              go_wp2_with (first | (go_at_call 25; refine (Calls.mono HT1.out ?_); rintro e w1 ⟨rfl, hr1, hf1⟩; have HR1 := hide hr1; have HF1 := hide hf1; have HS1 := hide (HSn.out _ hf1); clear hr1 hf1) | (go_at_call 25; refine (Calls.mono (HT2.out _ HR1.out HS1.out) ?_); rintro e w2 ⟨rfl, hr2, hf2⟩; have HR2 := hide hr2; have HF2 := hide (HF1.out.trans hf2 (fun _ h => .inl h)); have HS2 := hide (HSn.out _ HF2.out); have hs2 : w2.cell? ⟨1, 0, none⟩ = some (ers q1) := HS2.out.2; clear hr2 hf2))
              go_roundw
              case rel => exact ⟨a + 2, now - 1, -1, v_int (by omega), rfl, g2, by omega, .inr (.inr rfl), HR2, HS2, hide (HF.out.trans HF2.out (fun _ h => .inl h)), HX3⟩
              case measure =>
                have m1 := HM.out
                have m2 : w2.cell? ⟨p, 2, none⟩ = some (.int .i64 ((a + 1 + 1 : Nat) : Int)) := by have := HR2.out.cell 2; simpa using this
                rw [m1, m2]; simp only [Int.toNat_natCast]; omega
          | false =>
            have hx := HX.out
            rw [next_up g2 HB.out hb2] at hx
            have T2 : ∀ w1, Rdr w1 p s N (a + 1) → Sents w1 (ers q0) (ers q1) → _ := fun w1 h1 h2 => take_bit p s N (a + 1) (ers q0) (ers q1) w1 h1 h2 hN HSz.out g2 (b := 0) (by rw [getN_one, hb2]; rfl)
            have HT2 := hide T2
            have HX2 := hide hx
            clear T2 hx hb2
            by_cases gb : now = 15 ∨ wy = -1
            · have hx := HX2.out
              rw [if_pos gb] at hx
              have HX3 := hide hx
              clear hx
              have fin : ∀ (w2 : World) (v : Int) (e : Ending), Fr (fun g => g = p) wr w2 → e = .returned (.tuple #[.int .i64 v, ers q1]) → RNextP p s N X (ers q0) (ers q1) w e w2 := fun w2 v e h he => ⟨HF.out.trans h (fun _ h => .inl h), .inr (.inr (by rw [← HX3.out]; exact ⟨rfl, v, he⟩))⟩
              have HFin := hide fin
              clear fin
              by_cases ge : now = 15
              · subst ge
                go_wp2_with (first | (go_at_call 25; refine (Calls.mono HT1.out ?_); rintro e w1 ⟨rfl, hr1, hf1⟩; have HR1 := hide hr1; have HF1 := hide hf1; have HS1 := hide (HSn.out _ hf1); clear hr1 hf1) | (go_at_call 25; refine (Calls.mono (HT2.out _ HR1.out HS1.out) ?_); rintro e w2 ⟨rfl, hr2, hf2⟩; have HR2 := hide hr2; have HF2 := hide (HF1.out.trans hf2 (fun _ h => .inl h)); have HS2 := hide (HSn.out _ HF2.out); have hs2 : w2.cell? ⟨1, 0, none⟩ = some (ers q1) := HS2.out.2; clear hr2 hf2))
                go_region
                go_wp2_with fail
                go_ret2
                exact HFin.out _ _ _ (HF2.out.drewN _) rfl
              · obtain rfl : wy = -1 := gb.resolve_left ge
                have d0 : decide ((now : Int) +  1 < 0) = false := decide_eq_false (by omega)
                have d1 : decide ((15 : Int) < (now : Int) +  1) = false := decide_eq_false (by omega)
                go_wp2_with (first | (go_at_call 25; refine (Calls.mono HT1.out ?_); rintro e w1 ⟨rfl, hr1, hf1⟩; have HR1 := hide hr1; have HF1 := hide hf1; have HS1 := hide (HSn.out _ hf1); clear hr1 hf1) | (go_at_call 25; refine (Calls.mono (HT2.out _ HR1.out HS1.out) ?_); rintro e w2 ⟨rfl, hr2, hf2⟩; have HR2 := hide hr2; have HF2 := hide (HF1.out.trans hf2 (fun _ h => .inl h)); have HS2 := hide (HSn.out _ HF2.out); have hs2 : w2.cell? ⟨1, 0, none⟩ = some (ers q1) := HS2.out.2; clear hr2 hf2))
                go_region
                go_wp2_with fail
                go_ret2
                exact HFin.out _ _ _ (HF2.out.drewN _) rfl
            · have hx := HX2.out
              rw [if_neg gb] at hx
              have HX3 := hide hx
              clear hx
              have d0 : decide ((now : Int) +  1 < 0) = false := decide_eq_false (by omega)
              have d1 : decide ((15 : Int) < (now : Int) +  1) = false := decide_eq_false (by omega)
              have d2 : decide (wy = -1) = false := decide_eq_false (by omega)
              go_wp2_with (first | (go_at_call 25; refine (Calls.mono HT1.out ?_); rintro e w1 ⟨rfl, hr1, hf1⟩; have HR1 := hide hr1; have HF1 := hide hf1; have HS1 := hide (HSn.out _ hf1); clear hr1 hf1) | (go_at_call 25; refine (Calls.mono (HT2.out _ HR1.out HS1.out) ?_); rintro e w2 ⟨rfl, hr2, hf2⟩; have HR2 := hide hr2; have HF2 := hide (HF1.out.trans hf2 (fun _ h => .inl h)); have HS2 := hide (HSn.out _ HF2.out); have hs2 : w2.cell? ⟨1, 0, none⟩ = some (ers q1) := HS2.out.2; clear hr2 hf2))
              go_roundw
              case rel => exact ⟨a + 2, now + 1, 1, by go_num, rfl, g2, by omega, .inr (.inl rfl), HR2, HS2, hide (HF.out.trans HF2.out (fun _ h => .inl h)), HX3⟩
              case measure =>
                have m1 := HM.out
                have m2 : w2.cell? ⟨p, 2, none⟩ = some (.int .i64 ((a + 1 + 1 : Nat) : Int)) := by have := HR2.out.cell 2; simpa using this
                rw [m1, m2]; simp only [Int.toNat_natCast]; omega
        · have hx := HX.out
          rw [next_half g HB.out (by omega)] at hx
          have T2 : ∀ w1, Rdr w1 p s N (a + 1) → Sents w1 (ers q0) (ers q1) → _ := fun w1 h1 h2 => take_no p s N (a + 1) 1 (ers q0) (ers q1) w1 h1 h2 hN HSz.out (by omega) (by decide) (by omega)
          have HT2 := hide T2
          have HX2 := hide hx
          clear T2 hx
          go_wp2_with (first | (go_at_call 25; refine (Calls.mono HT1.out ?_); rintro e w1 ⟨rfl, hr1, hf1⟩; have HR1 := hide hr1; have HF1 := hide hf1; have HS1 := hide (HSn.out _ hf1); clear hr1 hf1) | (go_at_call 25; refine (Calls.mono (HT2.out _ HR1.out HS1.out) ?_); rintro e w2 ⟨rfl, j, rfl⟩))
          go_ret2
          exact ⟨HF.out.trans (HF1.out.drewN j) (fun _ h => .inl h), .inr (.inl (by rw [← HX2.out]; exact ⟨rfl, _, rfl⟩))⟩
    · have T1 := take_no p s N a 1 (ers q0) (ers q1) wr HR.out HS.out hN HSz.out haN (by decide) (by omega)
      have HT1 := hide T1
      have hx := HX.out
      rw [next_end (by omega)] at hx
      have HX2 := hide hx
      clear T1 hx
      go_wp2_with (go_at_call 25; refine (Calls.mono HT1.out ?_); rintro e w1 ⟨rfl, j, rfl⟩)
      go_ret2
      exact ⟨HF.out.drewN j, .inr (.inl (by rw [← HX2.out]; exact ⟨rfl, _, rfl⟩))⟩
end Go.Proofs.YtggffiikfelbjaaDoor
