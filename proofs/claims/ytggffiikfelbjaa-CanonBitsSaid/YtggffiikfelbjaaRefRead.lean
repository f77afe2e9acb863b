/- Walk: wringerref21.Read: it answers as canon.Read does. -/
import Derived.Test.YtggffiikfelbjaaBegPlain
namespace Go.Proofs.Ytggffiikfelbjaa
open Go.RowKit

theorem begins_yes {A A' : Option Addr} {ls : List Int} {c c' code L : Nat} {w : World} (h : Calls Try.prog 46 #[.slice A ls.length c, .slice A' ls.length c', .int .u64 code, .int .i64 L] w (BegP ls code L w)) {b : Bool} (hb : b = true ↔ begL ls code L ls.length) :
    Calls Try.prog 46 #[.slice A ls.length c, .slice A' ls.length c', .int .u64 code, .int .i64 L] w fun e w' => e = .returned (.bool b) ∧ ∃ j, w' = w.drewN j := by
  refine h.mono ?_
  rintro e w' ⟨r, rfl, hr, hj⟩
  have : r = b := by
    cases r <;> cases b <;> simp_all
  subst this
  exact ⟨rfl, hj⟩

set_option maxRecDepth 100000 in
set_option maxHeartbeats 4000000 in
theorem refRead_any (A : Option Addr) (ls : List Int) (c : Nat) (s : ByteArray) (n a : Int) (w : World) (h : Rd w w.heap.size A (ls.map (.int .i64))) (hlen : ls.length ≤ 9223372036854775807) (hn : I64 n) (ha : I64 a) (hs : s.size ≤ 9223372036854775807) :
    Calls Try.prog 23 #[bstr s n, .int .i64 a, .slice A ls.length c] w (NextP (readR ls s n a) w) := by
  have H := hide h
  clear h
  obtain ⟨a1, a2⟩ := ha
  by_cases hr : rightB s n = true
  · have hz : chkB s n = 0 := by simp [chkB, hr]
    have hR := rightB_n hr
    obtain ⟨n, rfl⟩ := Int.eq_ofNat_of_zero_le hR.1
    have hb : n ≤ 1048576 := by omega
    have hsz : s.size = (n + 7) / 8 := by omega
    have hsb : s.size ≤ 131072 := by omega
    have HSz := hide hsz
    have HR := hide hr
    have op : ∀ W, Below w.heap.size w W → Calls Try.prog 14 #[.slice A ls.length c] W (CodesP ls W) := fun W hW => refCodes_any A ls c W ((H.out.below hW).more hW.size) hlen
    have HOp := hide op
    clear op hsz hr hR
    by_cases hok : okL ls = true
    · have HK := hide hok
      have h512 := okL_len hok
      have e1 : codesL ls = tab ls.length (fun j => (codeN ls j : Nat)) := by simp [codesL, hok]
      have e2 : okW ls = 0 := by simp [okW, hok]
      have cd : ∀ W, Below w.heap.size w W → Calls Try.prog 14 #[.slice A ls.length c] W fun e w' => ∃ A' c', e = .returned (.tuple #[.slice A' ls.length c', .int .i64 0]) ∧ Rd w' w'.heap.size A' ((tab ls.length (fun j => (codeN ls j : Nat))).map (.int .u64)) ∧ Below W.heap.size W w' := fun W hW => by
        refine (HOp.out W hW).mono ?_
        rintro e w' ⟨A', c', rfl, hrd, hb⟩
        rw [e1] at hrd
        exact ⟨A', c', by rw [e1, e2, tab_length], hrd, hb⟩
      have HCd := hide cd
      clear hok e1 e2 cd HOp
      by_cases g : a < 0 ∨ (n : Int) < a
      · have hf : readR ls s n a = (0, 0, 1) := by unfold readR; rw [if_pos HR.out, if_pos HK.out, if_pos g]
        have HF := hide hf
        clear hf
        go_enter Try.func23, Try.ntmps23
        go_wp2_with (first
          | (go_at_call 43; refine (refCheck_any s n _ hn hs).mono ?_; rintro e w1 ⟨rfl, hb1⟩; rw [hz]; have kb := (Bk.new w _ _).keep hb1; have hbe1 : Below w.heap.size w w1 := ((Below.refl _ _).alloc (Nat.le_refl _) _).trans (hb1.mono (by simp)))
          | (go_at_call 14; refine (Calls.mono (HCd.out _ hbe1) ?_); rintro e w2 ⟨A', c', rfl, hrd, hb2⟩; have hbe2 : Below w.heap.size w w2 := hbe1.trans (hb2.mono hbe1.size); obtain ⟨q0, q1⟩ := two_cells (kb.keep hb2); clear hrd))
        all_goals
          first
            | (exfalso; omega)
            | (go_ret3; exact NextP.of HF.out hbe2)
      · obtain ⟨a, rfl⟩ := Int.eq_ofNat_of_zero_le (show 0 ≤ a by omega)
        have g1 : a ≤ n := by omega
        have hf : readR ls s n a = refR ls s n a 0 0 := by unfold readR refR; rw [if_pos HR.out, if_pos HK.out, if_neg g, if_pos rfl]; rfl
        obtain ⟨R, hRR⟩ : ∃ R, R = readR ls s n a := ⟨_, rfl⟩
        rw [← hRR]
        have HF := hide (hRR.trans hf)
        have b1 : decide ((a : Int) < 0) = false := decide_eq_false (by omega)
        have b2 : decide (n < a) = false := decide_eq_false (by omega)
        clear hf g hRR
        go_enter Try.func23, Try.ntmps23
        go_wp2_with (first
          | (go_at_call 43; refine (refCheck_any s n _ hn hs).mono ?_; rintro e w1 ⟨rfl, hb1⟩; rw [hz]; have kb := (Bk.new w _ _).keep hb1; have hbe1 : Below w.heap.size w w1 := ((Below.refl _ _).alloc (Nat.le_refl _) _).trans (hb1.mono (by simp)))
          | (go_at_call 14; refine (Calls.mono (HCd.out _ hbe1) ?_); rintro e w2 ⟨A', c', rfl, hrd, hb2⟩; have hbe2 : Below w.heap.size w w2 := hbe1.trans (hb2.mono hbe1.size); have kb2 := kb.keep hb2; obtain ⟨q0, q1⟩ := two_cells kb2; have HRd := hide hrd; clear hrd))
        have hz2 := kb2.lt
        have KB2 := hide kb2
        clear kb kb2 q0 q1 hb1 hb2
        go_loopw [11, 12] (fun cd l wr => ∃ L C : Nat, l = .int .i64 L ∧ cd = .int .u64 C ∧ L ≤ 15 ∧ C < 32768 ∧ Hid (RefOk ls L C) ∧ Hid (R = refR ls s n a L C) ∧ Below w2.heap.size w2 wr) (fun _ l _ => 16 - (intOf l).toNat)
        case atStart => exact ⟨0, 0, rfl, rfl, by omega, by omega, RefOk.zero ls, HF, Below.refl _ _⟩
        case round =>
          clear HF HCd
          obtain ⟨L, C, rfl, rfl, hL, hC, hst, hRn, hbe⟩ := hrel
          obtain ⟨q0, q1⟩ := two_cells (KB2.out.below hbe hz2)
          have hbew : Below w.heap.size w wr := hbe2.trans (hbe.mono (Nat.le_of_lt hz2))
          have fd : ∀ W, Below w.heap.size w W → Calls Try.prog 16 #[.slice A ls.length c, .int .u64 C, .int .i64 L] W (FindP ls C L W) := fun W hW => refFind_any A ls c C L W ((H.out.below hW).more hW.size) hlen ⟨by omega, by omega⟩ ⟨by omega, by omega⟩
          have HFd := hide fd
          clear fd
          by_cases gf : L ≠ 0 ∧ findC ls C L ≠ none
          · obtain ⟨g0, gf⟩ := gf
            obtain ⟨i, hi⟩ := Option.ne_none_iff_exists'.1 gf
            have hre := (findR_hit HK.out (by omega) hL hi)
            have hil := ((findC_iff ls C L i (by omega) hL).1 hi).1
            have hR2 := hRn.out.trans (refR_found (by omega) hi)
            have HR2 := hide hR2
            have fd : ∀ W, Below w.heap.size w W → Calls Try.prog 16 #[.slice A ls.length c, .int .u64 C, .int .i64 L] W fun e w' => e = .returned (.tuple #[.int .i64 i, .int .i64 0]) ∧ Below W.heap.size W w' := fun W hW => by
              have := HFd.out W hW
              unfold FindP at this
              rw [hre] at this
              exact this
            clear HFd
            have HFd := hide fd
            have g0' : decide (0 < L) = true := decide_eq_true (by omega)
            clear hi gf hre hR2 fd
            go_wp2_with (go_at_call 16; refine (Calls.mono (HFd.out _ hbew) ?_); rintro e w3 ⟨rfl, hb3⟩)
            go_ret3
            exact NextP.of HR2.out (hbew.trans (hb3.mono hbew.size))
          · have gf' : L = 0 ∨ findC ls C L = none := by
              by_cases g0 : L = 0
              · exact .inl g0
              · exact .inr (Classical.not_not.1 (fun h => gf ⟨g0, h⟩))
            obtain ⟨hR2, hnx⟩ := refR_none (s := s) (N := n) (a := a) hst.out gf'
            have hR3 := hRn.out.trans hR2
            have hre := findR_miss HK.out hL gf'
            have fd : ∀ W, Below w.heap.size w W → Calls Try.prog 16 #[.slice A ls.length c, .int .u64 C, .int .i64 L] W fun e w' => e = .returned (.tuple #[.int .i64 0, .int .i64 3]) ∧ Below W.heap.size W w' := fun W hW => by
              have := HFd.out W hW
              unfold FindP at this
              rw [hre] at this
              exact this
            clear HFd
            have HFd := hide fd
            have bg : ∀ (b : Bool) (W : World), (b = true ↔ begL ls C L ls.length) → Below w2.heap.size w2 W → Calls Try.prog 46 #[.slice A ls.length c, .slice A' ls.length c', .int .u64 C, .int .i64 L] W fun e w' => e = .returned (.bool b) ∧ ∃ j, w' = W.drewN j := fun b W hb hW => by
              have hw := hbe2.trans (hW.mono (Nat.le_of_lt hz2))
              exact begins_yes (begins_any A A' ls c c' C L W ((H.out.below hw).more hw.size) HK.out ((HRd.out.below hW).more hW.size) (by omega)) hb
            have HBg := hide bg
            clear fd bg hre hR2 gf gf'
            by_cases gb : begL ls C L ls.length
            · have hbt : true = true ↔ begL ls C L ls.length := ⟨fun _ => gb, fun _ => rfl⟩
              have hbg2 : ∀ W, Below w2.heap.size w2 W → Calls Try.prog 46 #[.slice A ls.length c, .slice A' ls.length c', .int .u64 C, .int .i64 L] W fun e w' => e = .returned (.bool true) ∧ ∃ j, w' = W.drewN j := fun W hW => HBg.out true W hbt hW
              have HBt := hide hbg2
              clear hbg2
              by_cases gs : n ≤ a + L
              · have HR2 := hide (hR3.trans (nextC_short HK.out hst.out hnx gb gs))
                have gs' : decide ((n : Int) ≤ (a : Int) + (L : Int)) = true := decide_eq_true (by omega)
                clear hbt gb hR3 hnx
                by_cases g0 : L = 0
                · have g0' : decide (0 < L) = false := decide_eq_false (by omega)
                  clear g0
                  go_wp2_with (first
                    | (go_at_call 46; refine (Calls.mono (HBt.out _ hbe) ?_); rintro e w4 ⟨rfl, j4, rfl⟩))
                  go_ret3
                  exact NextP.of HR2.out (below_drewN hbew _)
                · have g0' : decide (0 < L) = true := decide_eq_true (by omega)
                  go_wp2_with (first
                    | (go_at_call 16; refine (Calls.mono (HFd.out _ hbew) ?_); rintro e w3 ⟨rfl, hb3⟩; have hbe3 := hbe.trans (hb3.mono hbe.size); obtain ⟨q2, q3⟩ := two_cells (KB2.out.below hbe3 hz2))
                    | (go_at_call 46; refine (Calls.mono (HBt.out _ hbe3) ?_); rintro e w4 ⟨rfl, j4, rfl⟩))
                  go_ret3
                  exact NextP.of HR2.out (below_drewN (hbe2.trans (hbe3.mono (Nat.le_of_lt hz2))) _)
              · obtain ⟨hR4, hst4⟩ := nextC_go (s := s) (N := n) (a := a) HK.out hst.out hnx gb gs
                have HR4 := hide (hR3.trans hR4)
                have HSt4 := hide hst4
                have gs' : decide ((n : Int) ≤ (a : Int) + (L : Int)) = false := decide_eq_false (by omega)
                have hL15 := hst4.1
                have hC15 := hst4.2.1
                obtain ⟨b, hbb⟩ : ∃ b, b = bitAt s (a + L) := ⟨_, rfl⟩
                rw [← hbb] at hC15
                have hC17 : 2 * C + b.toNat < 32768 := Nat.lt_of_lt_of_le hC15 (Nat.pow_le_pow_right (n := 2) (by omega) hL15)
                clear hC15
                have is : ∀ W, Below w.heap.size w W → Calls Try.prog 47 #[bstr s n, .int .i64 ((a : Int) + (L : Int))] W fun e w' => e = .returned (.bool b) ∧ Below W.heap.size W w' := fun W _ => by
                  rw [hbb]
                  have := is_any s n (a + L) W (by have := HSz.out; omega) (by omega) hs
                  exact this
                have HIs := hide is
                rw [← hbb] at HR4 HSt4
                clear hbt gb hR3 hnx hR4 hst4 is hbb hRn hst
                cases b
                all_goals
                  by_cases g0 : L = 0
                  · have g0' : decide (0 < L) = false := decide_eq_false (by omega)
                    clear g0
                    simp only [Bool.toNat_false, Bool.toNat_true] at hC17
                    go_wp2_with (first
                      | (go_at_call 46; refine (Calls.mono (HBt.out _ hbe) ?_); rintro e w4 ⟨rfl, j4, rfl⟩; obtain ⟨q2, q3⟩ := two_cells ((KB2.out.below hbe hz2).drewN j4))
                      | (go_at_call 47; refine (Calls.mono (HIs.out _ (below_drewN hbew _)) ?_); rintro e w5 ⟨rfl, hb5⟩))
                    go_roundw
                    case rel => exact ⟨L + 1, _, by go_num, by first | exact v_int (by simp only [Bool.toNat_false, Bool.toNat_true] at *; omega), by omega, hC17, HSt4, HR4, (below_drewN hbe _).trans (hb5.mono (by have := hbe.size; simpa using this))⟩
                    case measure => simp [intOf]; omega
                  · have g0' : decide (0 < L) = true := decide_eq_true (by omega)
                    simp only [Bool.toNat_false, Bool.toNat_true] at hC17
                    go_wp2_with (first
                      | (go_at_call 16; refine (Calls.mono (HFd.out _ hbew) ?_); rintro e w3 ⟨rfl, hb3⟩; have hbe3 := hbe.trans (hb3.mono hbe.size); obtain ⟨q2, q3⟩ := two_cells (KB2.out.below hbe3 hz2))
                      | (go_at_call 46; refine (Calls.mono (HBt.out _ hbe3) ?_); rintro e w4 ⟨rfl, j4, rfl⟩; obtain ⟨q4, q5⟩ := two_cells ((KB2.out.below hbe3 hz2).drewN j4))
                      | (go_at_call 47; refine (Calls.mono (HIs.out _ (below_drewN (hbe2.trans (hbe3.mono (Nat.le_of_lt hz2))) _)) ?_); rintro e w5 ⟨rfl, hb5⟩))
                    go_roundw
                    case rel => exact ⟨L + 1, _, by go_num, by first | exact v_int (by simp only [Bool.toNat_false, Bool.toNat_true] at *; omega), by omega, hC17, HSt4, HR4, (below_drewN hbe3 _).trans (hb5.mono (by have := hbe3.size; simpa using this))⟩
                    case measure => simp [intOf]; omega
            · have hbt : false = true ↔ begL ls C L ls.length := ⟨fun h => (by cases h), fun h => absurd h gb⟩
              have hbg2 : ∀ W, Below w2.heap.size w2 W → Calls Try.prog 46 #[.slice A ls.length c, .slice A' ls.length c', .int .u64 C, .int .i64 L] W fun e w' => e = .returned (.bool false) ∧ ∃ j, w' = W.drewN j := fun W hW => HBg.out false W hbt hW
              have HBt := hide hbg2
              clear hbg2
              have HR2 := hide (hR3.trans (nextC_done HK.out hst.out hnx gb))
              clear hbt gb hR3 hnx
              by_cases g0 : L = 0
              · have g0' : decide (0 < L) = false := decide_eq_false (by omega)
                clear g0
                go_wp2_with (first
                  | (go_at_call 46; refine (Calls.mono (HBt.out _ hbe) ?_); rintro e w4 ⟨rfl, j4, rfl⟩))
                go_ret3
                exact NextP.of HR2.out (below_drewN hbew _)
              · have g0' : decide (0 < L) = true := decide_eq_true (by omega)
                go_wp2_with (first
                  | (go_at_call 16; refine (Calls.mono (HFd.out _ hbew) ?_); rintro e w3 ⟨rfl, hb3⟩; have hbe3 := hbe.trans (hb3.mono hbe.size))
                  | (go_at_call 46; refine (Calls.mono (HBt.out _ hbe3) ?_); rintro e w4 ⟨rfl, j4, rfl⟩))
                go_ret3
                exact NextP.of HR2.out (below_drewN (hbe2.trans (hbe3.mono (Nat.le_of_lt hz2))) _)
    · have hok : okL ls = false := by simpa using hok
      have hf : readR ls s n a = (0, 0, 7) := by unfold readR; rw [if_pos HR.out, if_neg (by rw [hok]; decide)]
      have HF := hide hf
      have e1 : codesL ls = [] := by simp [codesL, hok]
      have e2 : okW ls = 7 := by simp [okW, hok]
      have cd : ∀ W, Below w.heap.size w W → Calls Try.prog 14 #[.slice A ls.length c] W fun e w' => ∃ A' c', e = .returned (.tuple #[.slice A' 0 c', .int .i64 7]) ∧ Below W.heap.size W w' := fun W hW => by
        refine (HOp.out W hW).mono ?_
        rintro e w' ⟨A', c', rfl, hrd, hb⟩
        exact ⟨A', c', by rw [e1, e2]; rfl, hb⟩
      have HCd := hide cd
      clear hf hok e1 e2 cd HOp
      go_enter Try.func23, Try.ntmps23
      go_wp2_with (first
        | (go_at_call 43; refine (refCheck_any s n _ hn hs).mono ?_; rintro e w1 ⟨rfl, hb1⟩; rw [hz]; have kb := (Bk.new w _ _).keep hb1; have hbe1 : Below w.heap.size w w1 := ((Below.refl _ _).alloc (Nat.le_refl _) _).trans (hb1.mono (by simp)))
        | (go_at_call 14; refine (Calls.mono (HCd.out _ hbe1) ?_); rintro e w2 ⟨A', c', rfl, hb2⟩))
      go_ret3
      exact NextP.of HF.out (hbe1.trans (hb2.mono hbe1.size))
  · have hz : chkB s n = 2 := by simp [chkB, hr]
    have hf : readR ls s n a = (0, 0, 2) := by unfold readR; rw [if_neg hr]
    have HF := hide hf
    clear hf hr
    go_enter Try.func23, Try.ntmps23
    go_wp2_with (first
      | (go_at_call 43; refine (refCheck_any s n _ hn hs).mono ?_; rintro e w1 ⟨rfl, hb1⟩; rw [hz]))
    go_ret3
    exact NextP.of HF.out (((Below.refl _ _).alloc (Nat.le_refl _) _).trans (hb1.mono (by simp)))
end Go.Proofs.Ytggffiikfelbjaa
