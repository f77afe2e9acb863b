/- Walk: table.Add. -/
import Derived.Test.YtggffiikfelbjaaDoorTabB
namespace Go.Proofs.YtggffiikfelbjaaDoor
open Go.RowKit

set_option maxRecDepth 100000 in
set_option maxHeartbeats 4000000 in
theorem tadd_any (B p : Nat) (row : Option Nat) (l0 : List Bool) (A : Option Addr) (ls : List Int) (c : Nat) (w : World) (hW : Wr w p row l0) (hB : B ≤ w.heap.size) (hp : B ≤ p) (hrow : ∀ g, row = some g → B ≤ g) (h : Rd w B A (ls.map (.int .i64))) (hok : okL ls = true) (hne : ls.length ≠ 0) (hl0 : l0.length ≤ 1048576) :
    Calls Tryd.prog 14 #[.pointer (some ⟨p, 0, none⟩), .slice A ls.length c] w (TAddP B p l0 ls w) := by
  have H := hide h
  obtain ⟨h512, hr⟩ := okL_nat hok
  have HRg := hide hr
  have hT := tabBits_length_le hok
  obtain ⟨b0, o0, x0, hA, hb0, hx0, hc0⟩ := h.int (show 0 < ls.length by omega)
  subst hA
  obtain ⟨u0, u1⟩ := hr x0 (List.mem_of_getElem? hx0)
  obtain ⟨x0, rfl⟩ := Int.eq_ofNat_of_zero_le u0
  have hbits : tabBits ls = natBits x0 4 ++ tabT x0 (ls.map Int.toNat) := by
    have := dropN hx0
    rw [List.drop_zero] at this
    have e : (ls.map Int.toNat).headD 0 = x0 := by rw [this]; rfl
    unfold tabBits tableL
    rw [e]
  obtain ⟨F, hF⟩ : ∃ F, F = l0 ++ tabBits ls := ⟨_, rfl⟩
  have hFl : F.length ≤ 1100000 := by rw [hF, List.length_append]; omega
  have HFe := hide hF
  have HBits := hide hbits
  have hc0' : w.cell? ⟨b0, o0, none⟩ = some (.int .i64 x0) := hc0
  have ad := add_i p row l0 x0 4 w (by omega) (by decide) (by omega) (by decide) hW (by simp; omega)
  have HAd := hide ad
  clear h hok hr hT hx0 hc0 hbits hF ad hW
  go_enter Tryd.func14, Tryd.ntmps14
  go_wp2_with (go_at_call 19; refine (Calls.mono HAd.out ?_); rintro e w1 ⟨rfl, row1, hwr1, hrn1, hfr1⟩)
  have hrow1 := rowB hrn1 hrow hB
  have hbe1 := frB hfr1 hp hrow hB
  rw [Int.toNat_natCast, show (4 : Int).toNat = 4 from rfl] at hwr1
  have HWr1 := hide hwr1
  clear hwr1 hrn1 hfr1
  go_loopw [4, 16] (fun nw i wr => ∃ (k M : Nat) (rw : Option Nat) (l : List Bool), k ≤ ls.length ∧ i = .int .i64 k ∧ nw = .int .i64 M ∧ M ≤ 15 ∧ Hid (Wr wr p rw l) ∧ (∀ g, rw = some g → B ≤ g) ∧ Hid (l ++ tabT M ((ls.map Int.toNat).drop k) = F) ∧ Below B w wr) (fun _ i _ => ls.length - (intOf i).toNat)
  case atStart => exact ⟨0, x0, row1, _, by omega, rfl, rfl, by omega, HWr1, hrow1, hide (by rw [List.drop_zero, HFe.out, HBits.out, List.append_assoc]), hbe1⟩
  case round =>
    clear HWr1 hrow1
    obtain ⟨k, M, rw1, l, hk, rfl, rfl, hM, hwr, hrw, hsum, hbe⟩ := hrel
    by_cases hlt : k < ls.length
    · obtain ⟨b, o, x, hAb, hbb, hx, hcx⟩ := H.out.int hlt
      simp only [Option.some.injEq, Addr.mk.injEq, and_true] at hAb
      obtain ⟨rfl, rfl⟩ := hAb
      obtain ⟨v0, v1⟩ := HRg.out x (List.mem_of_getElem? hx)
      obtain ⟨x, rfl⟩ := Int.eq_ofNat_of_zero_le v0
      have hc := (hbe.cell (p := ⟨b0, o0 + k, none⟩) hb0).trans hcx
      have hs := hsum.out
      rw [dropN hx, tabT, Int.toNat_natCast, ← List.append_assoc] at hs
      obtain ⟨G, hG⟩ : ∃ G, G = l ++ moveT M x := ⟨_, rfl⟩
      rw [← hG] at hs
      have hGl : G.length ≤ 1100000 := by
        have := congrArg List.length hs
        rw [List.length_append] at this; omega
      have HG := hide hG
      have HS := hide hs
      have HK := hide (And.intro hwr.out (And.intro hrw hbe))
      clear hs hsum hx hcx hG hwr hrw hbe
      go_wp2_with fail
      go_loopw [4] (fun nw wx => ∃ (m : Nat) (rw : Option Nat) (l : List Bool), nw = .int .i64 m ∧ m ≤ 15 ∧ (m ≤ x ∨ m = M) ∧ Hid (Wr wx p rw l) ∧ (∀ g, rw = some g → B ≤ g) ∧ Hid (l ++ moveT m x = G) ∧ Below B w wx) (fun nw _ => x - (intOf nw).toNat)
      case atStart => exact ⟨M, rw1, l, rfl, hM, .inr rfl, HK.out.1, HK.out.2.1, HG.out.symm, HK.out.2.2⟩
      case round =>
        clear HG HK hc
        obtain ⟨m, rw2, l2, rfl, hm, hmx, hwr, hrw, hsum, hbe⟩ := hrel
        have hl2 : l2.length ≤ 1100000 := by
          have := congrArg List.length hsum.out
          rw [List.length_append] at this; omega
        by_cases hlt2 : m < x
        · have hmv := hsum.out
          rw [moveT_up hlt2] at hmv
          have HMv := hide hmv
          have ad := add_i p rw2 l2 2 2 wr (by decide) (by decide) (by decide) (by decide) hwr.out (by simp; omega)
          have HAd2 := hide ad
          clear ad hmv hsum hwr
          go_wp2_with (go_at_call 19; refine (Calls.mono HAd2.out ?_); rintro e w3 ⟨rfl, row3, hwr3, hrn3, hfr3⟩)
          have hrow3 := rowB hrn3 hrw (Nat.le_trans hB hbe.size)
          have hbe3 := hbe.trans (frB hfr3 hp hrw (Nat.le_trans hB hbe.size))
          go_roundw
          case rel => exact ⟨m + 1, row3, _, by go_num, by omega, .inl (by omega), hwr3, hrow3, hide (by rw [show natBits (2 : Int).toNat (2 : Int).toNat = [true, false] from rfl, List.append_assoc]; exact HMv.out), hbe3⟩
          case measure => simp [intOf]; omega
        · have HK := hide (And.intro hwr.out (And.intro hrw (And.intro hbe hsum.out)))
          clear hwr hrw hbe hsum
          go_wp2_with fail
          go_loopw [4] (fun nw wx => ∃ (m : Nat) (rw : Option Nat) (l : List Bool), nw = .int .i64 m ∧ m ≤ 15 ∧ x ≤ m ∧ Hid (Wr wx p rw l) ∧ (∀ g, rw = some g → B ≤ g) ∧ Hid (l ++ moveT m x = G) ∧ Below B w wx) (fun nw _ => (intOf nw).toNat - x)
          case atStart => exact ⟨m, rw2, l2, rfl, hm, by omega, HK.out.1, HK.out.2.1, HK.out.2.2.2, HK.out.2.2.1⟩
          case round =>
            clear HK
            obtain ⟨m, rw2, l2, rfl, hm, hmx, hwr, hrw, hsum, hbe⟩ := hrel
            have hl2 : l2.length ≤ 1100000 := by
              have := congrArg List.length hsum.out
              rw [List.length_append] at this; omega
            by_cases hlt3 : x < m
            · have hmv := hsum.out
              rw [moveT_down hlt3] at hmv
              have HMv := hide hmv
              have ad := add_i p rw2 l2 3 2 wr (by decide) (by decide) (by decide) (by decide) hwr.out (by simp; omega)
              have HAd2 := hide ad
              clear ad hmv hsum hwr
              go_wp2_with (go_at_call 19; refine (Calls.mono HAd2.out ?_); rintro e w3 ⟨rfl, row3, hwr3, hrn3, hfr3⟩)
              have hrow3 := rowB hrn3 hrw (Nat.le_trans hB hbe.size)
              have hbe3 := hbe.trans (frB hfr3 hp hrw (Nat.le_trans hB hbe.size))
              go_roundw
              case rel => exact ⟨m - 1, row3, _, v_int (by omega), by omega, by omega, hwr3, hrow3, hide (by rw [show natBits (3 : Int).toNat (2 : Int).toNat = [true, true] from rfl, List.append_assoc]; exact HMv.out), hbe3⟩
              case measure => simp [intOf]; omega
            · obtain rfl : m = x := by omega
              have hmv := hsum.out
              rw [moveT_same] at hmv
              have HMv := hide hmv
              have ad := add_i p rw2 l2 0 1 wr (by decide) (by decide) (by decide) (by decide) hwr.out (by simp; omega)
              have HAd2 := hide ad
              clear ad hmv hsum hwr
              go_wp2_with (go_at_call 19; refine (Calls.mono HAd2.out ?_); rintro e w3 ⟨rfl, row3, hwr3, hrn3, hfr3⟩)
              have hrow3 := rowB hrn3 hrw (Nat.le_trans hB hbe.size)
              have hbe3 := hbe.trans (frB hfr3 hp hrw (Nat.le_trans hB hbe.size))
              go_roundw
              case rel => exact ⟨k + 1, m, row3, _, by omega, by go_num, rfl, hm, hwr3, hrow3, hide (by rw [show natBits (0 : Int).toNat (1 : Int).toNat = [false] from rfl, HMv.out]; exact HS.out), hbe3⟩
              case measure => simp [intOf]; omega
    · have hs := hsum.out
      rw [List.drop_eq_nil_of_le (by simp; omega), tabT, List.append_nil] at hs
      have HS := hide hs
      clear hs hsum
      go_wp2_with fail
      refine bodyPost_ret (results_none rfl _ _ _) rfl ?_
      exact ⟨rfl, rw1, by rw [← HFe.out, ← HS.out]; exact hwr.out, hrw, hbe⟩
end Go.Proofs.YtggffiikfelbjaaDoor
