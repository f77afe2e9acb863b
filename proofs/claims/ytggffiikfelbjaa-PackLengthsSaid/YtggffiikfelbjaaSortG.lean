/- Walk: slices.symMergeCmpFunc, both parts of two places or more, the left one not the longer. -/
import Derived.Test.YtggffiikfelbjaaSortE
namespace Go.Proofs.Ytggffiikfelbjaa
open Go.RowKit

set_option maxRecDepth 100000 in
set_option maxHeartbeats 8000000 in
theorem sym_lo (g B c L N : Nat) (ws : List Int) (hlen : L ≤ 1000000) (ih : SymOK g B c L ws N) (a m b : Nat) (P X Y Q : List Nat) (w : World) (hN : X.length + Y.length ≤ N + 1) (hX2 : 1 < X.length) (hY2 : 1 < Y.length) (hg : ¬ (a + b) / 2 < m) (h : Dat w g (P ++ (X ++ (Y ++ Q)))) (hL : L = (P ++ (X ++ (Y ++ Q))).length) (ha : a = P.length) (hm : m = P.length + X.length) (hb : b = P.length + X.length + Y.length)
    (hX : X.Pairwise (Lx ws)) (hY : Y.Pairwise (Lx ws)) (hxy : ∀ x ∈ X, ∀ y ∈ Y, x < y) (hxn : ∀ x ∈ X, x < ws.length) (hyn : ∀ y ∈ Y, y < ws.length) (hC : CmpAt g B ws w) :
    Calls Try.prog 74 #[.slice (some ⟨g, 0, none⟩) L c, .int .i64 a, .int .i64 m, .int .i64 b, .func (.func 66) #[] #[.pointer (some ⟨B, 0, none⟩)]] w (SortP ws g P (X ++ Y) Q w) := by
  have H := hide h
  have hbL : b ≤ L := by simp at hL; omega
  have ham : a + 1 < m := by omega
  have hmb : m + 1 < b := by omega
  have HC := hide hC
  have HA := hide (And.intro ha (And.intro hm (And.intro hb hL)))
  have HX := hide (And.intro hX (And.intro hY (And.intro hxy (And.intro hxn hyn))))
  have HI := hide ih
  have HN := hide hN
  have d0 : (((m : Int) - (a : Int)) == 1) = false := by simp; omega
  have d1 : (((b : Int) - (m : Int)) == 1) = false := by simp; omega
  obtain ⟨mid, hmid⟩ : ∃ mid, mid = (a + b) / 2 := ⟨_, rfl⟩
  have hmidI : ((a : Int) + (b : Int)) / 2 = (mid : Int) := by omega
  have hm1 : a < mid := by omega
  have hm2 : mid < b := by omega
  have hm3 : a + b ≤ 2 * mid + 1 := by omega
  have hm4 : 2 * mid ≤ a + b := by omega
  obtain ⟨n, hn⟩ : ∃ n, n = mid + m := ⟨_, rfl⟩
  have hnI : (mid : Int) + (m : Int) = (n : Int) := by omega
  have hn1 : n ≤ mid + m := by omega
  have hn2 : mid + m ≤ n := by omega
  replace hg : ¬ mid < m := by rw [hmid]; exact hg
  clear h hL ha hm hb hX hY hxy hxn hyn hC hX2 hY2 ih hN hmid hn
  have dg : decide ((mid : Int) < (m : Int)) = false := decide_eq_false (by omega)
  obtain ⟨s0, hs0⟩ : ∃ s0, s0 = a := ⟨_, rfl⟩
  obtain ⟨r0, hr0⟩ : ∃ r0, r0 = m := ⟨_, rfl⟩
  have b1 : a ≤ s0 := by omega
  have b2 : r0 ≤ m := by omega
  have b3 : n ≤ s0 + b := by omega
  have b4 : r0 ≤ mid := by omega
  have b5 : s0 ≤ r0 := by omega
  have b6 : s0 = a ∨ s0 + b = n := .inl hs0
  have b7 : r0 = m ∨ r0 = mid := .inl hr0
  have HB := hide (And.intro b6 b7)
  have start : (Value.int .i64 a = .int .i64 s0 ∧ Value.int .i64 m = .int .i64 r0) := ⟨by rw [hs0], by rw [hr0]⟩
  have HS := hide start
  clear start b6 b7 hs0 hr0
  go_enter Try.func74, Try.ntmps74
  go_wp2_with fail
  go_loopw [20, 21] (fun vi vj wr => ∃ (i j : Nat), vi = .int .i64 i ∧ vj = .int .i64 j ∧ s0 ≤ i ∧ i ≤ j ∧ j ≤ r0 ∧ Hid (i = s0 ∨ NX ws X Y a m n (i - 1)) ∧ Hid (j = r0 ∨ PX ws X Y a m n j) ∧ Hid (Dat wr g (P ++ (X ++ (Y ++ Q)))) ∧ Hid (Fr (fun k => k = g) w wr)) (fun i j _ => (intOf j).toNat - (intOf i).toNat)
  case atStart => exact ⟨s0, r0, by first | exact HS.out.1 | rfl, by first | exact HS.out.2 | rfl, by omega, b5, by omega, hide (.inl rfl), hide (.inl rfl), H, hide (Fr.refl _ _)⟩
  case round =>
    clear H HS
    obtain ⟨i, j, rfl, rfl, hsi, hij, hjr, e1, e2, H, HF⟩ := hrel
    by_cases hlt : i < j
    · obtain ⟨q, hq⟩ : ∃ q, q = (i + j) / 2 := ⟨_, rfl⟩
      have hq1 : i ≤ q ∧ q < j := by omega
      have hqI : ((i : Int) + (j : Int)) / 2 = (q : Int) := by omega
      obtain ⟨r, hr⟩ : ∃ r, r = n - 1 - q := ⟨_, rfl⟩
      have hrI : ((n : Int) - 1) - (q : Int) = (r : Int) := by omega
      have hr1 : m ≤ r ∧ r < b := by omega
      have hrL : r < L := by omega
      have hqL : q < L := by omega
      obtain ⟨x, hx⟩ : ∃ x, X[q - a]? = some x := ⟨X[q - a]'(by have := HA.out; omega), by simp⟩
      obtain ⟨y, hy⟩ : ∃ y, Y[r - m]? = some y := ⟨Y[r - m]'(by have := HA.out; omega), by simp⟩
      have c0 : wr.cell? ⟨g, q, none⟩ = some (.int .i64 x) := H.out.cell (by
        have h3 := HA.out
        rw [List.getElem?_append_right (by omega), ← h3.1, List.getElem?_append_left (by omega)]
        exact hx)
      have c1 : wr.cell? ⟨g, r, none⟩ = some (.int .i64 y) := H.out.cell (by
        have h3 := HA.out
        rw [← List.append_assoc, List.getElem?_append_right (by rw [List.length_append]; omega), List.length_append, ← h3.2.1, List.getElem?_append_left (by omega)]
        exact hy)
      have xn := HX.out.2.2.2.1 x (List.mem_of_getElem? hx)
      have yn := HX.out.2.2.2.2 y (List.mem_of_getElem? hy)
      have call := fun (k : Nat) => HC.out (wr.drewN k) (HF.out.drewN k) y x yn xn
      obtain ⟨K, hK⟩ : ∃ K, K = cmpI (ws.getD y 0) (ws.getD x 0) := ⟨_, rfl⟩
      rw [← hK] at call
      have HCall := hide call
      have hKd := cmpI_neg (ws.getD y 0) (ws.getD x 0)
      rw [← hK] at hKd
      have HXY := hide (And.intro hx (And.intro hy hr))
      clear call hK hx hy hr hq
      by_cases hK0 : K < 0
      · have dk : decide (K < 0) = true := decide_eq_true hK0
        have hlt2 : ws.getD y 0 < ws.getD x 0 := of_decide_eq_true (hKd.symm.trans dk)
        have HLt := hide hlt2
        clear hKd hlt2
        go_wp2_with fail
        clear hqI
        go_quiet ((go_at_call 66; exact Calls.quiet_of (HCall.out _)))
        go_wp2_with fail
        go_roundw
        case rel =>
          refine ⟨i, q, rfl, rfl, hsi, hq1.1, by omega, e1, hide (.inr ⟨x, y, HXY.out.1, ?_, HLt.out⟩), hide (H.out.drewN _), hide (HF.out.drewN _)⟩
          rw [← HXY.out.2.2]; exact HXY.out.2.1
        case measure => simp [intOf]; omega
      · have dk : decide (K < 0) = false := decide_eq_false hK0
        have hlt2 : ¬ ws.getD y 0 < ws.getD x 0 := of_decide_eq_false (hKd.symm.trans dk)
        have HLt := hide hlt2
        clear hKd hlt2
        go_wp2_with fail
        clear hqI
        go_quiet ((go_at_call 66; exact Calls.quiet_of (HCall.out _)))
        go_wp2_with fail
        go_roundw
        case rel =>
          refine ⟨q + 1, j, by go_num, rfl, by omega, by omega, hjr, hide (.inr ⟨x, y, ?_, ?_, by have := HLt.out; omega⟩), e2, hide (H.out.drewN _), hide (HF.out.drewN _)⟩
          · rw [Nat.add_sub_cancel]; exact HXY.out.1
          · rw [Nat.add_sub_cancel, ← HXY.out.2.2]; exact HXY.out.2.1
        case measure => simp [intOf]; omega
    · obtain rfl : i = j := by omega
      obtain ⟨e, he⟩ : ∃ e, e = n - i := ⟨_, rfl⟩
      have heI : (n : Int) - (i : Int) = (e : Int) := by omega
      have h1 : a ≤ i := by omega
      have h2 : i ≤ m := by omega
      have h3 : m ≤ e := by omega
      have h4 : e ≤ b := by omega
      have h5 : i + e ≤ n := by omega
      have h6 : n ≤ i + e := by omega
      have part : ∀ z1 ∈ X.take (i - a) ++ Y.take (e - m), ∀ z2 ∈ X.drop (i - a) ++ Y.drop (e - m), Lx ws z1 z2 := by
        have h7 := HA.out
        refine sym_part HX.out.1 HX.out.2.1 HX.out.2.2.1 (by omega) (by omega) h1 h3 (n := n) (b := b) (by omega) ?_ ?_
        · rcases e1.out with h | h
          · rcases HB.out.1 with h' | h'
            · exact .inl (by omega)
            · exact .inr (.inl (by omega))
          · exact .inr (.inr h)
        · rcases e2.out with h | h
          · rcases HB.out.2 with h' | h'
            · exact .inl (by omega)
            · exact .inr (.inl (by omega))
          · exact .inr (.inr h)
      obtain ⟨X1, X2, hX12, x1, x2, x3, x4⟩ : ∃ X1 X2, X = X1 ++ X2 ∧ X.take (i - a) = X1 ∧ X.drop (i - a) = X2 ∧ X1.length = i - a ∧ X2.length = m - i := ⟨X.take (i - a), X.drop (i - a), (List.take_append_drop _ _).symm, rfl, rfl, by have := HA.out; simp; omega, by have := HA.out; simp; omega⟩
      obtain ⟨Y1, Y2, hY12, y1, y2, y3, y4⟩ : ∃ Y1 Y2, Y = Y1 ++ Y2 ∧ Y.take (e - m) = Y1 ∧ Y.drop (e - m) = Y2 ∧ Y1.length = e - m ∧ Y2.length = b - e := ⟨Y.take (e - m), Y.drop (e - m), (List.take_append_drop _ _).symm, rfl, rfl, by have := HA.out; simp; omega, by have := HA.out; simp; omega⟩
      rw [x1, x2, y1, y2] at part
      have HP := hide part
      subst hX12 hY12
      have HXl := hide (And.intro x3 (And.intro x4 (And.intro y3 y4)))
      have hXs := HX.out.1
      have hYs := HX.out.2.1
      rw [List.pairwise_append] at hXs hYs
      have HXs := hide (And.intro hXs.1 (And.intro hXs.2.1 (And.intro hYs.1 hYs.2.1)))
      clear part x1 x2 x3 x4 y1 y2 y3 y4 hXs hYs he e1 e2 HB
      go_upto_region 39 with (fail)
      go_cut [185] from 178 to 185 (fun sc wx => ∃ bc : Bool, sc = .bool bc ∧ Hid (bc = (decide (i < m) && decide (m < e))) ∧ wr = wx)
      case first =>
        by_cases gA : i < m
        · have dA : decide ((i : Int) < (m : Int)) = true := decide_eq_true (by omega)
          by_cases gB : m < e
          · have dB : decide ((m : Int) < (e : Int)) = true := decide_eq_true (by omega)
            go_wp2_with fail
            go_meet
            exact ⟨true, rfl, hide (by simp [gA, gB]), rfl⟩
          · have dB : decide ((m : Int) < (e : Int)) = false := decide_eq_false (by omega)
            go_wp2_with fail
            go_meet
            exact ⟨false, rfl, hide (by simp [gB]), rfl⟩
        · have dA : decide ((i : Int) < (m : Int)) = false := decide_eq_false (by omega)
          go_wp2_with fail
          go_meet
          exact ⟨false, rfl, hide (by simp [gA]), rfl⟩
      case rest =>
      obtain ⟨bR, rfl, HbR, hwc⟩ := hcut
      subst hwc
      go_upto_if 185 with (fail)
      go_cut [] from 186 to 191 (fun wx => Hid (Dat wx g (P ++ (X1 ++ (Y1 ++ (X2 ++ (Y2 ++ Q)))))) ∧ Hid (Fr (fun k => k = g) w wx))
      case first =>
        cases bR with
        | true =>
          have hR := HbR.out
          simp only [Bool.true_eq, Bool.and_eq_true, decide_eq_true_eq] at hR
          have gA := hR.1
          have gB := hR.2
          clear hR
          have rot := rotate_any g c i m e L (P ++ X1) X2 Y1 (Y2 ++ Q) (.func (.func 66) #[] #[.pointer (some ⟨B, 0, none⟩)]) wr (by have := H.out; simpa using this) (by have := HA.out.2.2.2; simpa using this) (by have := HXl.out; have := HA.out; simp; omega) (by have := HXl.out; have := HA.out; simp; omega) (by have := HXl.out; have := HA.out; simp; omega) (by have := HXl.out; omega) (by have := HXl.out; omega) hlen
          have HRot := hide rot
          clear rot
          go_wp2_with (go_at_call 75; refine (Calls.mono HRot.out ?_); rintro e9 w9 ⟨rfl, hd9, hf9⟩; have HD9 := hide hd9; have HF9 := hide hf9; clear hd9 hf9)
          go_meet
          exact ⟨hide (by have := HD9.out; simpa using this), hide (HF.out.trans HF9.out (fun _ h => .inl h))⟩
        | false =>
          have hR := HbR.out
          go_wp2_with fail
          go_meet
          refine ⟨hide ?_, HF⟩
          have := H.out
          by_cases gA : i < m
          · have gB : ¬ m < e := fun h => by simp [gA, h] at hR
            have hz : Y1 = [] := List.eq_nil_of_length_eq_zero (by have := HXl.out; omega)
            rw [hz] at this ⊢; simpa using this
          · have hz : X2 = [] := List.eq_nil_of_length_eq_zero (by have := HXl.out; omega)
            rw [hz] at this ⊢; simpa using this
      case rest =>
      obtain ⟨HD2, HF2⟩ := hcut
      clear H HF HbR
      go_upto_region 41 with (fail)
      go_cut [199] from 192 to 199 (fun sc wx => ∃ bc : Bool, sc = .bool bc ∧ Hid (bc = (decide (a < i) && decide (i < mid))) ∧ wc = wx)
      case first =>
        by_cases gA : a < i
        · have dA : decide ((a : Int) < (i : Int)) = true := decide_eq_true (by omega)
          by_cases gB : i < mid
          · have dB : decide ((i : Int) < (mid : Int)) = true := decide_eq_true (by omega)
            go_wp2_with fail
            go_meet
            exact ⟨true, rfl, hide (by simp [gA, gB]), rfl⟩
          · have dB : decide ((i : Int) < (mid : Int)) = false := decide_eq_false (by omega)
            go_wp2_with fail
            go_meet
            exact ⟨false, rfl, hide (by simp [gB]), rfl⟩
        · have dA : decide ((a : Int) < (i : Int)) = false := decide_eq_false (by omega)
          go_wp2_with fail
          go_meet
          exact ⟨false, rfl, hide (by simp [gA]), rfl⟩
      case rest =>
      obtain ⟨bS, rfl, HbS, hwc⟩ := hcut
      subst hwc
      go_upto_if 199 with (fail)
      go_cut [] from 200 to 205 (fun wx => ∃ Z1, Hid (Z1.Perm (X1 ++ Y1)) ∧ Hid (Z1.Pairwise (Lx ws)) ∧ Hid (Dat wx g (P ++ (Z1 ++ (X2 ++ (Y2 ++ Q))))) ∧ Hid (Fr (fun k => k = g) w wx))
      case first =>
        cases bS with
        | true =>
          have hR := HbS.out
          simp only [Bool.true_eq, Bool.and_eq_true, decide_eq_true_eq] at hR
          have gA := hR.1
          have gB := hR.2
          clear hR
          have rc := HI.out a i mid P X1 Y1 (X2 ++ (Y2 ++ Q)) _ (by have h9 := HN.out; rw [List.length_append, List.length_append] at h9; have := HXl.out; omega) (by have := HXl.out; omega) (by have := HXl.out; omega) (by have := HD2.out; simpa using this) (by have := HA.out.2.2.2; simp at this ⊢; omega) (by have := HA.out; omega) (by have := HA.out; have := HXl.out; omega) (by have := HA.out; have := HXl.out; omega) HXs.out.1 HXs.out.2.2.1 (fun x hx y hy => HX.out.2.2.1 x (List.mem_append_left _ hx) y (List.mem_append_left _ hy)) (fun x hx => HX.out.2.2.2.1 x (List.mem_append_left _ hx)) (fun y hy => HX.out.2.2.2.2 y (List.mem_append_left _ hy)) (HC.out.fr HF2.out)
          have HRec := hide rc
          clear rc
          go_wp2_with (go_at_call 74; refine (Calls.mono HRec.out ?_); rintro e9 w9 ⟨Z1, rfl, hp9, hs9, hd9, hf9⟩; have HP9 := hide hp9; have HS9 := hide hs9; have HD9 := hide hd9; have HF9 := hide hf9; clear hp9 hs9 hd9 hf9)
          go_meet
          exact ⟨Z1, HP9, HS9, HD9, hide (HF2.out.trans HF9.out (fun _ h => .inl h))⟩
        | false =>
          have hR := HbS.out
          go_wp2_with fail
          go_meet
          refine ⟨X1 ++ Y1, hide (List.Perm.refl _), hide ?_, hide (by have := HD2.out; simpa using this), HF2⟩
          by_cases gA : a < i
          · have gB : ¬ i < mid := fun h => by simp [gA, h] at hR
            have hz : Y1 = [] := List.eq_nil_of_length_eq_zero (by have := HXl.out; omega)
            rw [hz, List.append_nil]; exact HXs.out.1
          · have hz : X1 = [] := List.eq_nil_of_length_eq_zero (by have := HXl.out; omega)
            rw [hz]; exact HXs.out.2.2.1
      case rest =>
      obtain ⟨Z1, HP1, HS1, HD3, HF3⟩ := hcut
      clear HD2 HF2 HbS
      go_upto_region 43 with (fail)
      go_cut [213] from 206 to 213 (fun sc wx => ∃ bc : Bool, sc = .bool bc ∧ Hid (bc = (decide (mid < e) && decide (e < b))) ∧ wc = wx)
      case first =>
        by_cases gA : mid < e
        · have dA : decide ((mid : Int) < (e : Int)) = true := decide_eq_true (by omega)
          by_cases gB : e < b
          · have dB : decide ((e : Int) < (b : Int)) = true := decide_eq_true (by omega)
            go_wp2_with fail
            go_meet
            exact ⟨true, rfl, hide (by simp [gA, gB]), rfl⟩
          · have dB : decide ((e : Int) < (b : Int)) = false := decide_eq_false (by omega)
            go_wp2_with fail
            go_meet
            exact ⟨false, rfl, hide (by simp [gB]), rfl⟩
        · have dA : decide ((mid : Int) < (e : Int)) = false := decide_eq_false (by omega)
          go_wp2_with fail
          go_meet
          exact ⟨false, rfl, hide (by simp [gA]), rfl⟩
      case rest =>
      obtain ⟨bT, rfl, HbT, hwc⟩ := hcut
      subst hwc
      have hz1 : Z1.length = mid - a := by have := HP1.out.length_eq; have := HXl.out; simp at *; omega
      have fin : ∀ (e9 : Ending) (w9 : World) (Z2 : List Nat), e9 = .returned (.tuple #[]) → Z2.Perm (X2 ++ Y2) → Z2.Pairwise (Lx ws) → Dat w9 g (P ++ (Z1 ++ (Z2 ++ Q))) → Fr (fun k => k = g) w w9 → SortP ws g P (X1 ++ X2 ++ (Y1 ++ Y2)) Q w e9 w9 := by
        intro e9 w9 Z2 he hp hs hd hf
        refine ⟨Z1 ++ Z2, he, ?_, pairwise_four HS1.out hs HP1.out hp HP.out, by simpa using hd, hf⟩
        refine (HP1.out.append hp).trans ?_
        have h1 : (X1 ++ Y1 ++ (X2 ++ Y2)) = X1 ++ ((Y1 ++ X2) ++ Y2) := by simp
        have h2 : (X1 ++ X2 ++ (Y1 ++ Y2)) = X1 ++ ((X2 ++ Y1) ++ Y2) := by simp
        rw [h1, h2]
        exact List.Perm.append_left _ (List.Perm.append_right _ List.perm_append_comm)
      have HFin := hide fin
      have HZ1 := hide hz1
      clear fin hz1
      cases bT with
      | true =>
        have hR := HbT.out
        simp only [Bool.true_eq, Bool.and_eq_true, decide_eq_true_eq] at hR
        have gA := hR.1
        have gB := hR.2
        clear hR
        have rc := HI.out mid e b (P ++ Z1) X2 Y2 Q _ (by have h9 := HN.out; rw [List.length_append, List.length_append] at h9; have := HXl.out; omega) (by have := HXl.out; omega) (by have := HXl.out; omega) (by have := HD3.out; simpa using this) (by have := HA.out.2.2.2; have := HZ1.out; have := HXl.out; simp at *; omega) (by have := HA.out; have := HZ1.out; simp; omega) (by have := HA.out; have := HXl.out; have := HZ1.out; simp; omega) (by have := HA.out; have := HXl.out; have := HZ1.out; simp; omega) HXs.out.2.1 HXs.out.2.2.2 (fun x hx y hy => HX.out.2.2.1 x (List.mem_append_right _ hx) y (List.mem_append_right _ hy)) (fun x hx => HX.out.2.2.2.1 x (List.mem_append_right _ hx)) (fun y hy => HX.out.2.2.2.2 y (List.mem_append_right _ hy)) (HC.out.fr HF3.out)
        have HRec := hide rc
        clear rc
        go_wp2_with (go_at_call 74; refine (Calls.mono HRec.out ?_); rintro e9 w9 ⟨Z2, rfl, hp9, hs9, hd9, hf9⟩; have HP9 := hide hp9; have HS9 := hide hs9; have HD9 := hide hd9; have HF9 := hide hf9; clear hp9 hs9 hd9 hf9)
        refine bodyPost_ret (results_none rfl _ _ _) rfl ?_
        exact HFin.out _ _ Z2 rfl HP9.out HS9.out (by have := HD9.out; simpa using this) (HF3.out.trans HF9.out (fun _ h => .inl h))
      | false =>
        have hR := HbT.out
        go_wp2_with fail
        refine bodyPost_ret (results_none rfl _ _ _) rfl ?_
        refine HFin.out _ _ (X2 ++ Y2) rfl (List.Perm.refl _) ?_ (by have := HD3.out; simpa using this) HF3.out
        by_cases gA : mid < e
        · have gB : ¬ e < b := fun h => by simp [gA, h] at hR
          have hz : Y2 = [] := List.eq_nil_of_length_eq_zero (by have := HXl.out; omega)
          rw [hz, List.append_nil]; exact HXs.out.2.1
        · have hz : X2 = [] := List.eq_nil_of_length_eq_zero (by have := HXl.out; omega)
          rw [hz]; exact HXs.out.2.2.2

#print axioms sym_lo
end Go.Proofs.Ytggffiikfelbjaa
