/- Walk: slices.symMergeCmpFunc, where one of the parts is a single place. -/
import Derived.Test.YtggffiikfelbjaaSortB
namespace Go.Proofs.Ytggffiikfelbjaa
open Go.RowKit

theorem sorted_at {ws : List Int} {Y : List Nat} (h : Y.Pairwise (Lx ws)) {i j x y : Nat} (hx : Y[i]? = some x) (hy : Y[j]? = some y) (hij : i < j) : Lx ws x y := by
  obtain ⟨hi, rfl⟩ := List.getElem?_eq_some_iff.1 hx
  obtain ⟨hj, rfl⟩ := List.getElem?_eq_some_iff.1 hy
  exact List.pairwise_iff_getElem.1 h i j hi hj hij

set_option maxRecDepth 100000 in
set_option maxHeartbeats 4000000 in
theorem sym_left (g B c a m b L x : Nat) (ws : List Int) (P Y Q : List Nat) (w : World) (h : Dat w g (P ++ (x :: (Y ++ Q)))) (hL : L = (P ++ (x :: (Y ++ Q))).length) (ha : a = P.length) (hm : m = P.length + 1) (hb : b = P.length + 1 + Y.length) (hlen : L ≤ 1000000)
    (hY : Y.Pairwise (Lx ws)) (hxy : ∀ y ∈ Y, x < y) (hxn : x < ws.length) (hn : ∀ y ∈ Y, y < ws.length) (hC : CmpAt g B ws w) :
    Calls Try.prog 74 #[.slice (some ⟨g, 0, none⟩) L c, .int .i64 a, .int .i64 m, .int .i64 b, .func (.func 66) #[] #[.pointer (some ⟨B, 0, none⟩)]] w (SortP ws g P (x :: Y) Q w) := by
  have H := hide h
  have hbL : b ≤ L := by simp at hL; omega
  have hmb : m ≤ b := by omega
  have ham1 : a < m := by omega
  have ham2 : m ≤ a + 1 := by omega
  have HC := hide hC
  have HA := hide (And.intro ha (And.intro hb hL))
  have HY := hide (And.intro hY (And.intro hxy hn))
  have d0 : ((m : Int) - (a : Int)) = 1 := by omega
  clear h hL ha hb hY hxy hn hC hm
  go_enter Try.func74, Try.ntmps74
  go_wp2_with fail
  go_loopw [10, 11] (fun vi vj wr => ∃ (i j : Nat), vi = .int .i64 i ∧ vj = .int .i64 j ∧ m ≤ i ∧ i ≤ j ∧ j ≤ b ∧ Hid (∀ y ∈ Y.take (i - m), Lx ws y x) ∧ Hid (∀ y ∈ Y.drop (j - m), Lx ws x y) ∧ Hid (Dat wr g (P ++ (x :: (Y ++ Q)))) ∧ Hid (Fr (fun k => k = g) w wr)) (fun i j _ => (intOf j).toNat - (intOf i).toNat)
  case atStart => exact ⟨m, b, rfl, rfl, by omega, hmb, by omega, hide (by simp), hide (by have := HA.out; rw [List.drop_eq_nil_of_le (by omega)]; simp), H, hide (Fr.refl _ _)⟩
  case round =>
    clear H
    obtain ⟨i, j, rfl, rfl, hai, hij, hjb, e1, e2, H, HF⟩ := hrel
    by_cases hlt : i < j
    · obtain ⟨q, hq⟩ : ∃ q, q = (i + j) / 2 := ⟨_, rfl⟩
      have hq1 : i ≤ q ∧ q < j := by omega
      have hqI : ((i : Int) + (j : Int)) / 2 = (q : Int) := by omega
      have hqL : q < L := by omega
      have haL : a < L := by omega
      have HQ := hide hq
      clear hq
      obtain ⟨y, hy⟩ : ∃ y, Y[q - m]? = some y := ⟨Y[q - m]'(by have := HA.out; omega), by simp⟩
      have hyY : y ∈ Y := List.mem_of_getElem? hy
      have c0 : wr.cell? ⟨g, a, none⟩ = some (.int .i64 x) := H.out.cell (by rw [HA.out.1]; exact at_mid _ _ _)
      have c1 : wr.cell? ⟨g, q, none⟩ = some (.int .i64 y) := H.out.cell (by
        have h3 := HA.out
        rw [List.getElem?_append_right (by omega), show q - P.length = (q - m) + 1 by omega, List.getElem?_cons_succ, List.getElem?_append_left (by omega)]
        exact hy)
      have yn := HY.out.2.2 y hyY
      have call := fun (k : Nat) => HC.out (wr.drewN k) (HF.out.drewN k) y x yn hxn
      obtain ⟨K, hK⟩ : ∃ K, K = cmpI (ws.getD y 0) (ws.getD x 0) := ⟨_, rfl⟩
      rw [← hK] at call
      have HCall := hide call
      have hKd := cmpI_neg (ws.getD y 0) (ws.getD x 0)
      rw [← hK] at hKd
      have HY1 := hide hy
      have HYY := hide hyY
      clear call hK hy hyY
      by_cases hK0 : K < 0
      · have dk : decide (K < 0) = true := decide_eq_true hK0
        have hlt2 : ws.getD y 0 < ws.getD x 0 := of_decide_eq_true (hKd.symm.trans dk)
        have HLt := hide hlt2
        clear hKd hlt2
        go_wp2_with fail
        clear hqI
        go_quiet ((go_at_call 66; exact Calls.quiet_of (HCall.out _)))
        go_wp2_with fail
        go_roundw
        case rel =>
          refine ⟨q + 1, j, by go_num, rfl, by omega, by omega, hjb, hide ?_, e2, hide (H.out.drewN _), hide (HF.out.drewN _)⟩
          intro z hz
          rw [show q + 1 - m = q - m + 1 by omega, List.take_add_one, HY1.out] at hz
          rcases List.mem_append.1 hz with hz | hz
          · obtain ⟨k, hk⟩ := List.mem_iff_getElem?.1 hz
            have hkl : k < q - m := by
              have := (List.getElem?_eq_some_iff.1 hk).1
              rw [List.length_take] at this; omega
            rw [List.getElem?_take_of_lt hkl] at hk
            have := sorted_at HY.out.1 hk HY1.out hkl
            have := HLt.out
            unfold Lx at *
            omega
          · simp at hz; subst hz; exact .inl HLt.out
        case measure => simp [intOf]; omega
      · have dk : decide (K < 0) = false := decide_eq_false hK0
        have hlt2 : ¬ ws.getD y 0 < ws.getD x 0 := of_decide_eq_false (hKd.symm.trans dk)
        have HLt := hide hlt2
        clear hKd hlt2
        go_wp2_with fail
        clear hqI
        go_quiet ((go_at_call 66; exact Calls.quiet_of (HCall.out _)))
        go_wp2_with fail
        go_roundw
        case rel =>
          refine ⟨i, q, rfl, rfl, hai, hq1.1, by omega, e1, hide ?_, hide (H.out.drewN _), hide (HF.out.drewN _)⟩
          have hxy : Lx ws x y := by
            have := HLt.out
            have := HY.out.2.1 y HYY.out
            unfold Lx; omega
          intro z hz
          obtain ⟨k, hk⟩ := List.mem_iff_getElem?.1 hz
          rw [List.getElem?_drop] at hk
          rcases Nat.eq_zero_or_pos k with e | e
          · subst e
            rw [Nat.add_zero, HY1.out] at hk
            simp at hk; subst hk; exact hxy
          · exact hxy.trans (sorted_at HY.out.1 HY1.out hk (by omega))
        case measure => simp [intOf]; omega
    · obtain rfl : i = j := by omega
      go_wp2_with fail
      go_loopw [13] (fun vk wx => ∃ (k : Nat), vk = .int .i64 k ∧ a ≤ k ∧ k + 1 ≤ i ∧ Hid (Dat wx g (P ++ (Y.take (k - a) ++ (x :: (Y.drop (k - a) ++ Q))))) ∧ Hid (Fr (fun k => k = g) w wx)) (fun vk _ => i - (intOf vk).toNat)
      case atStart => exact ⟨a, rfl, by omega, by omega, hide (by have := H.out; simpa using this), HF⟩
      case round =>
        clear H HF
        obtain ⟨k, rfl, hak, hki, HD, HF⟩ := hrel
        by_cases hlt2 : k + 1 < i
        · have dlt : decide ((k : Int) < (i : Int) - 1) = true := decide_eq_true (by omega)
          obtain ⟨y, hy⟩ : ∃ y, Y[k - a]? = some y := ⟨Y[k - a]'(by have := HA.out; omega), by simp⟩
          have ht : Y.take (k + 1 - a) = Y.take (k - a) ++ [y] := by rw [show k + 1 - a = (k - a) + 1 by omega, List.take_add_one, hy]; rfl
          have hdr : Y.drop (k - a) = y :: Y.drop (k + 1 - a) := by
            obtain ⟨h1, h2⟩ := List.getElem?_eq_some_iff.1 hy
            rw [List.drop_eq_getElem_cons h1, h2, show k + 1 - a = k - a + 1 by omega]
          have hd := HD.out
          rw [hdr] at hd
          have eq1 : P ++ (Y.take (k - a) ++ (x :: (y :: Y.drop (k + 1 - a) ++ Q))) = (P ++ Y.take (k - a)) ++ x :: ([] ++ y :: (Y.drop (k + 1 - a) ++ Q)) := by simp
          rw [eq1] at hd
          have hi1 : k = (P ++ Y.take (k - a)).length := by have h2 := HA.out; simp; omega
          have hj1 : k + 1 = (P ++ Y.take (k - a)).length + 1 + ([] : List Nat).length := by have h2 := HA.out; simp; omega
          obtain ⟨t1, t2, t3, t4, t5⟩ := two_at (P ++ Y.take (k - a)) [] (Y.drop (k + 1 - a) ++ Q) x y hi1 hj1
          have v1 := hd.cell t1
          have v2 := hd.cell t2
          have u1 := hd.free k
          have u2 := hd.free (k + 1)
          have HD2 := hide (hd.swap hi1 hj1)
          have HT := hide (And.intro ht hdr)
          have hkL : k + 1 < L := by omega
          clear hd t1 t2 t3 t4 t5 eq1 hi1 hj1 ht hdr hy HD
          go_wp2_with fail
          go_region
          go_wp2_with fail
          go_roundw
          case rel =>
            refine ⟨k + 1, by go_num, by omega, by omega, hide ?_, hide ((HF.out.two _ _).drew)⟩
            have := HD2.out.drew
            rw [HT.out.1]
            simpa using this
          case measure => simp [intOf]; omega
        · have dlt : decide ((k : Int) < (i : Int) - 1) = false := decide_eq_false (by omega)
          go_wp2_with fail
          refine bodyPost_ret (results_none rfl _ _ _) rfl ?_
          have hk : k - a = i - m := by omega
          refine ⟨Y.take (k - a) ++ x :: Y.drop (k - a), rfl, ?_, ?_, by have := HD.out; simpa using this, HF.out⟩
          · conv => rhs; rw [← List.take_append_drop (k - a) Y]
            exact List.perm_middle
          · refine ins_sorted (by rw [List.take_append_drop]; exact HY.out.1) (fun z hz => ?_) (by rw [hk]; exact e2.out)
            exact e1.out z (by rw [← hk]; exact List.mem_of_getLast? hz)
#print axioms sym_left
end Go.Proofs.Ytggffiikfelbjaa
