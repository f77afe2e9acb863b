/- Walk: slices.symMergeCmpFunc, where the right part is a single place. -/
import Derived.Test.YtggffiikfelbjaaSortC
namespace Go.Proofs.Ytggffiikfelbjaa
open Go.RowKit

set_option maxRecDepth 100000 in
set_option maxHeartbeats 4000000 in
theorem sym_right (g B c a m b L y : Nat) (ws : List Int) (P X Q : List Nat) (w : World) (h : Dat w g (P ++ (X ++ (y :: Q)))) (hL : L = (P ++ (X ++ (y :: Q))).length) (ha : a = P.length) (hm : m = P.length + X.length) (hb : b = P.length + X.length + 1) (hX1 : 1 < X.length) (hlen : L ≤ 1000000)
    (hX : X.Pairwise (Lx ws)) (hxy : ∀ x ∈ X, x < y) (hyn : y < ws.length) (hn : ∀ x ∈ X, x < ws.length) (hC : CmpAt g B ws w) :
    Calls Try.prog 74 #[.slice (some ⟨g, 0, none⟩) L c, .int .i64 a, .int .i64 m, .int .i64 b, .func (.func 66) #[] #[.pointer (some ⟨B, 0, none⟩)]] w (SortP ws g P (X ++ [y]) Q w) := by
  have H := hide h
  have hbL : b ≤ L := by simp at hL; omega
  have ham : a + 1 < m := by omega
  have hmb1 : m < b := by omega
  have hmb2 : b ≤ m + 1 := by omega
  have HC := hide hC
  have HA := hide (And.intro ha (And.intro hm hL))
  have HX := hide (And.intro hX (And.intro hxy hn))
  have d0 : (((m : Int) - (a : Int)) == 1) = false := by simp; omega
  have d1 : ((b : Int) - (m : Int)) = 1 := by omega
  have hmL : m < L := by omega
  clear h hL ha hb hX hxy hn hC hm hX1
  go_enter Try.func74, Try.ntmps74
  go_wp2_with fail
  go_loopw [14, 15] (fun vi vj wr => ∃ (i j : Nat), vi = .int .i64 i ∧ vj = .int .i64 j ∧ a ≤ i ∧ i ≤ j ∧ j ≤ m ∧ Hid (∀ x ∈ X.take (i - a), Lx ws x y) ∧ Hid (∀ x ∈ X.drop (j - a), Lx ws y x) ∧ Hid (Dat wr g (P ++ (X ++ (y :: Q)))) ∧ Hid (Fr (fun k => k = g) w wr)) (fun i j _ => (intOf j).toNat - (intOf i).toNat)
  case atStart => exact ⟨a, m, rfl, rfl, by omega, by omega, by omega, hide (by simp), hide (by have := HA.out; rw [List.drop_eq_nil_of_le (by omega)]; simp), H, hide (Fr.refl _ _)⟩
  case round =>
    clear H
    obtain ⟨i, j, rfl, rfl, hai, hij, hjb, e1, e2, H, HF⟩ := hrel
    by_cases hlt : i < j
    · obtain ⟨q, hq⟩ : ∃ q, q = (i + j) / 2 := ⟨_, rfl⟩
      have hq1 : i ≤ q ∧ q < j := by omega
      have hqI : ((i : Int) + (j : Int)) / 2 = (q : Int) := by omega
      have hqL : q < L := by omega
      have HQ := hide hq
      clear hq
      obtain ⟨x, hx⟩ : ∃ x, X[q - a]? = some x := ⟨X[q - a]'(by have := HA.out; omega), by simp⟩
      have hxX : x ∈ X := List.mem_of_getElem? hx
      have c0 : wr.cell? ⟨g, m, none⟩ = some (.int .i64 y) := H.out.cell (by
        have h3 := HA.out
        rw [← List.append_assoc, h3.2.1, ← List.length_append]; exact at_mid _ _ _)
      have c1 : wr.cell? ⟨g, q, none⟩ = some (.int .i64 x) := H.out.cell (by
        have h3 := HA.out
        rw [List.getElem?_append_right (by omega), ← h3.1, List.getElem?_append_left (by omega)]
        exact hx)
      have xn := HX.out.2.2 x hxX
      have call := fun (k : Nat) => HC.out (wr.drewN k) (HF.out.drewN k) y x hyn xn
      obtain ⟨K, hK⟩ : ∃ K, K = cmpI (ws.getD y 0) (ws.getD x 0) := ⟨_, rfl⟩
      rw [← hK] at call
      have HCall := hide call
      have hKd := cmpI_neg (ws.getD y 0) (ws.getD x 0)
      rw [← hK] at hKd
      have HX1 := hide hx
      have HXX := hide hxX
      clear call hK hx hxX
      by_cases hK0 : K < 0
      · have dk : decide (K < 0) = true := decide_eq_true hK0
        have hlt2 : ws.getD y 0 < ws.getD x 0 := of_decide_eq_true (hKd.symm.trans dk)
        have HLt := hide hlt2
        clear hKd hlt2
        go_wp2_with fail
        clear hqI
        go_quiet ((go_at_call 66; exact Calls.quiet_of (HCall.out _)))
        go_wp2_with fail
        go_roundw
        case rel =>
          refine ⟨i, q, rfl, rfl, hai, hq1.1, by omega, e1, hide ?_, hide (H.out.drewN _), hide (HF.out.drewN _)⟩
          intro z hz
          obtain ⟨k, hk⟩ := List.mem_iff_getElem?.1 hz
          rw [List.getElem?_drop] at hk
          rcases Nat.eq_zero_or_pos k with e | e
          · subst e
            rw [Nat.add_zero, HX1.out] at hk
            simp at hk; subst hk; exact .inl HLt.out
          · have := sorted_at HX.out.1 HX1.out hk (by omega)
            have := HLt.out
            unfold Lx at *
            omega
        case measure => simp [intOf]; omega
      · have dk : decide (K < 0) = false := decide_eq_false hK0
        have hlt2 : ¬ ws.getD y 0 < ws.getD x 0 := of_decide_eq_false (hKd.symm.trans dk)
        have HLt := hide hlt2
        clear hKd hlt2
        go_wp2_with fail
        clear hqI
        go_quiet ((go_at_call 66; exact Calls.quiet_of (HCall.out _)))
        go_wp2_with fail
        go_roundw
        case rel =>
          refine ⟨q + 1, j, by go_num, rfl, by omega, by omega, hjb, hide ?_, e2, hide (H.out.drewN _), hide (HF.out.drewN _)⟩
          have hxy : Lx ws x y := by
            have := HLt.out
            have := HX.out.2.1 x HXX.out
            unfold Lx; omega
          intro z hz
          rw [show q + 1 - a = q - a + 1 by omega, List.take_add_one, HX1.out] at hz
          rcases List.mem_append.1 hz with hz | hz
          · obtain ⟨k, hk⟩ := List.mem_iff_getElem?.1 hz
            have hkl : k < q - a := by
              have := (List.getElem?_eq_some_iff.1 hk).1
              rw [List.length_take] at this; omega
            rw [List.getElem?_take_of_lt hkl] at hk
            exact (sorted_at HX.out.1 hk HX1.out hkl).trans hxy
          · simp at hz; subst hz; exact hxy
        case measure => simp [intOf]; omega
    · obtain rfl : i = j := by omega
      go_wp2_with fail
      go_loopw [17] (fun vk wx => ∃ (k : Nat), vk = .int .i64 k ∧ i ≤ k ∧ k ≤ m ∧ Hid (Dat wx g (P ++ (X.take (k - a) ++ (y :: (X.drop (k - a) ++ Q))))) ∧ Hid (Fr (fun k => k = g) w wx)) (fun vk _ => (intOf vk).toNat)
      case atStart => exact ⟨m, rfl, by omega, by omega, hide (by have := H.out; have h3 := HA.out; rw [List.take_of_length_le (by omega), List.drop_eq_nil_of_le (by omega)]; simpa using this), HF⟩
      case round =>
        clear H HF
        obtain ⟨k, rfl, hik, hkm, HD, HF⟩ := hrel
        by_cases hlt2 : i < k
        · have dlt : decide ((i : Int) < (k : Int)) = true := decide_eq_true (by omega)
          obtain ⟨x, hx⟩ : ∃ x, X[k - 1 - a]? = some x := ⟨X[k - 1 - a]'(by have := HA.out; omega), by simp⟩
          have ht : X.take (k - a) = X.take (k - 1 - a) ++ [x] := by rw [show k - a = (k - 1 - a) + 1 by omega, List.take_add_one, hx]; rfl
          have hdr : X.drop (k - 1 - a) = x :: X.drop (k - a) := by
            obtain ⟨h1, h2⟩ := List.getElem?_eq_some_iff.1 hx
            rw [List.drop_eq_getElem_cons h1, h2, show k - 1 - a + 1 = k - a by omega]
          have hd := HD.out
          rw [ht] at hd
          have eq1 : P ++ (X.take (k - 1 - a) ++ [x] ++ (y :: (X.drop (k - a) ++ Q))) = (P ++ X.take (k - 1 - a)) ++ x :: ([] ++ y :: (X.drop (k - a) ++ Q)) := by simp
          rw [eq1] at hd
          have hi1 : k - 1 = (P ++ X.take (k - 1 - a)).length := by have h2 := HA.out; simp; omega
          have hj1 : k = (P ++ X.take (k - 1 - a)).length + 1 + ([] : List Nat).length := by have h2 := HA.out; simp; omega
          obtain ⟨t1, t2, t3, t4, t5⟩ := two_at (P ++ X.take (k - 1 - a)) [] (X.drop (k - a) ++ Q) x y hi1 hj1
          have v1 := hd.cell t1
          have v2 := hd.cell t2
          have u1 := hd.free (k - 1)
          have u2 := hd.free k
          have HD2 := hide (hd.swap2 hi1 hj1)
          have HT := hide (And.intro ht hdr)
          have hkL : k < L := by omega
          have n1 : ((k : Int) - 1) = ((k - 1 : Nat) : Int) := by omega
          clear hd t1 t2 t3 t4 t5 eq1 hi1 hj1 ht hdr hx HD
          go_wp2_with fail
          go_region
          go_wp2_with fail
          go_roundw
          case rel =>
            refine ⟨k - 1, v_int (by omega), by omega, by omega, hide ?_, hide ((HF.out.two _ _).drew)⟩
            have := HD2.out.drew
            rw [HT.out.2]
            simpa using this
          case measure => simp [intOf]; omega
        · have dlt : decide ((i : Int) < (k : Int)) = false := decide_eq_false (by omega)
          obtain rfl : i = k := by omega
          go_wp2_with fail
          refine bodyPost_ret (results_none rfl _ _ _) rfl ?_
          refine ⟨X.take (i - a) ++ y :: X.drop (i - a), rfl, ?_, ?_, by have := HD.out; simpa using this, HF.out⟩
          · have h1 : (X.take (i - a) ++ y :: X.drop (i - a)).Perm (y :: (X.take (i - a) ++ X.drop (i - a))) := List.perm_middle
            rw [List.take_append_drop] at h1
            exact h1.trans (List.perm_append_singleton y X).symm
          · refine ins_sorted (by rw [List.take_append_drop]; exact HX.out.1) (fun z hz => ?_) e2.out
            exact e1.out z (List.mem_of_getLast? hz)
#print axioms sym_right
end Go.Proofs.Ytggffiikfelbjaa
