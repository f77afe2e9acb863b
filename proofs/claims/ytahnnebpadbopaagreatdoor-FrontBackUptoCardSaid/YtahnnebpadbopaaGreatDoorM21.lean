/- Lemmas for the row: FrE, FrF, FrG, FrH, FrI, FrJ, FrK, FrL, FrM, FrN. -/
import Derived.Test.YtahnnebpadbopaaGreatDoorM17
import Derived.Test.YtahnnebpadbopaaGreatDoorM19
import Derived.Test.YtahnnebpadbopaaGreatDoorM20
import Derived.Lib.QuietBelow
set_option linter.unusedVariables false
/- Walks: wringerref32.Digits, fits, begins. -/
namespace Go.Proofs.YtahnnebpadbopaaGreatDoor
open Go.RowKit

theorem hexD_dec (d : Nat) (h : d < 10) : hexD d = UInt8.ofNat (48 + d) := by unfold hexD; rw [if_pos h]
set_option maxRecDepth 100000 in
set_option maxHeartbeats 2000000 in
theorem digits_nat (u : Nat) : ∀ (w : World), u < 1000000000 → Calls Tryz.prog 42 #[.int .i64 (u : Nat)] w fun e w' => e = .returned (.string (blB (Lib.decDigits u))) ∧ ∃ n, w' = w.drewN n := by
  induction u using Nat.strongRecOn with
  | _ u ih =>
    intro w hu
    by_cases h10 : u < 10
    · have h0i : ¬ (u : Int) < 0 := by omega
      have h1i : (u : Int) < 10 := by omega
      have hx := hex_one u (by omega)
      have hd : Lib.decDigits u = [hexD u] := by rw [Lib.decDigits_one h10, hexD_dec u h10]
      rw [hd]
      clear ih hd
      go_enter Tryz.func42, Tryz.ntmps42
      go_wp2_with fail
      go_ret
      exact ⟨rfl, 0, rfl⟩
    · have h0i : ¬ (u : Int) < 0 := by omega
      have h1i : ¬ (u : Int) < 10 := by omega
      obtain ⟨v, hv⟩ : ∃ v, v = u / 10 := ⟨_, rfl⟩
      obtain ⟨r, hr⟩ : ∃ r, r = u % 10 := ⟨_, rfl⟩
      have hrT : (u : Int).tmod 10 = (r : Int) := by rw [Int.tmod_eq_emod_of_nonneg (by omega)]; omega
      have HvI := hide (show (u : Int) / 10 = (v : Int) by omega)
      have hr10 : r < 10 := by omega
      obtain ⟨r1, hr1⟩ : ∃ r1, r1 = r + 1 := ⟨_, rfl⟩
      have hx := hex_one r (by omega)
      rw [← hr1] at hx
      have hw1 : IntKind.i64.wrap ((r : Int) + 1) = (r1 : Int) := by rw [IntWalk.i64_in _ ⟨by omega, by omega⟩]; omega
      have hb1 : (r1 : Int) ≤ 16 := by omega
      have hb2 : (r : Int) ≤ (r1 : Int) := by omega
      have hb3 : r ≤ r1 := by omega
      have hb4 : r1 ≤ 16 := by omega
      clear hr1
      obtain ⟨V, hV⟩ : ∃ V, V = blB (Lib.decDigits v) := ⟨_, rfl⟩
      have hVs : V.size ≤ 100 := by
        rw [hV, ← bl_size, bl_blB]
        have := dec_length 8 v (by omega)
        omega
      have iv : ∀ (W : World) (z : Int), z = (v : Int) → Calls Tryz.prog 42 #[.int .i64 z] W fun e w' => e = .returned (.string V) ∧ ∃ n, w' = W.drewN n := fun W z hz => by rw [hV, hz]; exact ih v (by omega) W (by omega)
      have hd : Lib.decDigits u = Lib.decDigits v ++ [hexD r] := by rw [Lib.decDigits, dif_neg h10, hexD_dec r hr10, hv, hr]
      rw [hd]
      have hcat : ¬ 9223372036854775807 < V.size + (blB [hexD r]).size := by
        rw [← bl_size (blB [hexD r]), bl_blB]
        simp; omega
      have IQ := hide iv
      have hda := blB_app (Lib.decDigits v) [hexD r]
      rw [← hV] at hda
      rw [← hda]
      clear hda hV
      clear ih hd iv hv hr h10
      go_enter Tryz.func42, Tryz.ntmps42
      go_wp2_with fail
      go_quiet ((go_at_call 42; refine Calls.quiet_of (IQ.out _ _ ?_); have hvi := HvI.out; first | exact hvi | omega | (rw [IntWalk.i64_in _ ⟨by omega, by omega⟩]; omega)))
      go_wp2_with fail
      go_ret
      exact ⟨rfl, _, rfl⟩
theorem digits_any (n : Int) (w : World) (h : fitsN n = true) : Calls Tryz.prog 42 #[.int .i64 n] w fun e w' => e = .returned (.string (blB (Lib.itoa n))) ∧ ∃ n, w' = w.drewN n := by
  unfold fitsN at h
  simp only [Bool.and_eq_true, decide_eq_true_eq] at h
  by_cases h0 : n < 0
  · obtain ⟨u, hu⟩ : ∃ u : Nat, u = n.natAbs := ⟨_, rfl⟩
    have hn : -n = (u : Int) := by omega
    have hwn : IntKind.i64.wrap (-n) = (u : Int) := by rw [IntWalk.i64_in _ ⟨by omega, by omega⟩]; omega
    have hn0 : n < 0 := h0
    obtain ⟨V, hV⟩ : ∃ V, V = blB (Lib.decDigits u) := ⟨_, rfl⟩
    have iv : ∀ W, Calls Tryz.prog 42 #[.int .i64 (u : Int)] W fun e w' => e = .returned (.string V) ∧ ∃ n, w' = W.drewN n := fun W => by rw [hV]; exact digits_nat u W (by omega)
    have hVs : V.size ≤ 100 := by
      rw [hV, ← bl_size, bl_blB]
      have := Lib.decDigits_length u
      have := dec_length 8 u (by omega)
      omega
    have hVn : ¬ 9223372036854775807 < 1 + V.size := by omega
    have hd : Lib.itoa n = 45 :: Lib.decDigits u := by unfold Lib.itoa; rw [if_pos h0, hu]
    rw [hd]
    have IV := hide iv
    have hda := blB_app [45] (Lib.decDigits u)
    rw [← hV] at hda
    rw [show (45 :: Lib.decDigits u) = [45] ++ Lib.decDigits u from rfl, ← hda]
    clear hda hV hd iv hu hn
    go_enter Tryz.func42, Tryz.ntmps42
    go_wp2_with (go_at_call 42; refine Calls.mono (IV.out _) ?_; rintro e w2 ⟨rfl, h2⟩)
    go_ret
    exact ⟨rfl, h2⟩
  · obtain ⟨u, rfl⟩ := Int.eq_ofNat_of_zero_le (show 0 ≤ n by omega)
    have hd : Lib.itoa (u : Int) = Lib.decDigits u := by unfold Lib.itoa; rw [if_neg h0]; rfl
    rw [hd]
    exact digits_nat u w (by omega)
theorem fits_any (n : Int) (w : World) : Calls Tryz.prog 41 #[.int .i64 n] w fun e w' => e = .returned (.bool (fitsN n)) ∧ w' = w := by
  unfold fitsN
  by_cases h1 : -1000000000 < n
  · by_cases h2 : n < 1000000000
    · rw [decide_eq_true h1, decide_eq_true h2]
      go_enter Tryz.func41, Tryz.ntmps41
      go_wp2_with fail
      go_ret
      exact ⟨rfl, rfl⟩
    · rw [decide_eq_true h1, decide_eq_false h2]
      go_enter Tryz.func41, Tryz.ntmps41
      go_wp2_with fail
      go_ret
      exact ⟨rfl, rfl⟩
  · rw [decide_eq_false h1]
    go_enter Tryz.func41, Tryz.ntmps41
    go_wp2_with fail
    go_ret
    exact ⟨by simp, rfl⟩
theorem begins_any (s p : ByteArray) (w : World) : Calls Tryz.prog 37 #[.string s, .string p] w fun e w' => e = .returned (.tuple #[.string (blB ((begB (bl s) (bl p)).getD [])), .bool (begB (bl s) (bl p)).isSome]) ∧ w' = w := by
  have hs := bl_size s
  have hp := bl_size p
  by_cases hl : s.size < p.size
  · have hb : begB (bl s) (bl p) = none := by
      unfold begB
      rw [if_neg]
      intro e
      have := congrArg List.length e
      rw [List.length_take] at this
      omega
    rw [hb]
    have hli : (s.size : Int) < (p.size : Int) := by omega
    clear hb hs hp hl
    go_enter Tryz.func37, Tryz.ntmps37
    go_wp2_with fail
    refine bodyPost_ret (v := .tuple #[.string ⟨#[]⟩, .bool false]) (by simp [results, Tryz.results37, go_sem]) rfl ?_
    exact ⟨rfl, rfl⟩
  · have hli : ¬ (s.size : Int) < (p.size : Int) := by omega
    obtain ⟨Q, hQ⟩ : ∃ Q, Q = s.extract 0 p.size := ⟨_, rfl⟩
    obtain ⟨P, hP⟩ : ∃ P, P = s.extract p.size s.size := ⟨_, rfl⟩
    have hVQ : (Q.toList == p.toList) = decide (Q = p) := toL_eq
    have hP2 : P = blB ((bl s).drop (bl p).length) := by
      rw [hp, ← bl_drop, hP]
      exact (blB_bl _).symm
    have hiff : (bl s).take (bl p).length = bl p ↔ Q = p := by
      rw [hp, ← bl_take, ← hQ]
      exact ⟨fun e => bl_inj e, fun e => by rw [e]⟩
    have hQ' := hQ.symm
    have hP' := hP.symm
    by_cases hVe : Q = p
    · rw [decide_eq_true hVe] at hVQ
      have hb : begB (bl s) (bl p) = some ((bl s).drop (bl p).length) := by unfold begB; rw [if_pos (hiff.2 hVe)]
      rw [hb]
      have HP2 := hide hP2
      clear hb hs hp hl hiff hVe hP2 hQ hP
      go_enter Tryz.func37, Tryz.ntmps37
      go_wp2_with fail
      refine bodyPost_ret (v := .tuple #[.string P, .bool true]) (by simp [results, Tryz.results37, go_sem]) rfl ?_
      exact ⟨by rw [HP2.out], rfl⟩
    · rw [decide_eq_false hVe] at hVQ
      have hb : begB (bl s) (bl p) = none := by unfold begB; rw [if_neg (fun e => hVe (hiff.1 e))]
      rw [hb]
      clear hb hs hp hl hiff hVe hP2 hQ hP
      go_enter Tryz.func37, Tryz.ntmps37
      go_wp2_with fail
      refine bodyPost_ret (v := .tuple #[.string ⟨#[]⟩, .bool false]) (by simp [results, Tryz.results37, go_sem]) rfl ?_
      exact ⟨rfl, rfl⟩
end Go.Proofs.YtahnnebpadbopaaGreatDoor
/- Walks: world.right, world.Right, wringerref29.Right (printed by gen_frf.py). -/
namespace Go.Proofs.YtahnnebpadbopaaGreatDoor
open Go.RowKit

theorem emp3 (a b c : ByteArray) : (a ++ b ++ c).toList.isEmpty = (decide (a.size = 0) && decide (b.size = 0) && decide (c.size = 0)) := by
  rw [isEmpty_str, ByteArray.size_append, ByteArray.size_append]
  by_cases h1 : a.size = 0 <;> by_cases h2 : b.size = 0 <;> by_cases h3 : c.size = 0 <;> simp [h1, h2, h3]
set_option maxRecDepth 100000 in
set_option maxHeartbeats 8000000 in
theorem wright_any (k : Nat) (nm to_ tx : ByteArray) (n : Int) (l : List Bool) (A : Option Addr) (c : Nat) (w : World) (h1 : nm.size ≤ 100000000) (h2 : to_.size ≤ 100000000) (h3 : tx.size ≤ 100000000) (h4 : l.length ≤ 100000000) :
    Calls Tryz.prog 43 #[.agg #[.int .u8 (k : Nat), .string nm, .string to_, .string tx, .int .i64 n, .slice A l.length c]] w fun e w' => e = .returned (.bool (rightS ⟨k, nm, to_, tx, n, l⟩)) ∧ Below w.heap.size w w' := by
  have HL3 := hide (show ((l.length : Int) == 0) = decide (l = []) by cases l with | nil => rfl | cons a l => (rw [decide_eq_false (by simp)]; rw [beq_eq_false_iff_ne]; simp; omega))
  have hk : k = 0 ∨ k = 1 ∨ k = 2 ∨ k = 3 ∨ k = 4 ∨ k = 5 ∨ k = 6 ∨ k = 7 ∨ k = 8 ∨ k = 9 ∨ k = 10 ∨ 10 < k := by omega
  rcases hk with rfl | rfl | rfl | rfl | rfl | rfl | rfl | rfl | rfl | rfl | rfl | hk
  · have hres : rightS ⟨0, nm, to_, tx, n, l⟩ = false := rfl
    rw [hres]
    go_enter Tryz.func43, Tryz.ntmps43
    go_wp2_with fail
    all_goals go_ret
    all_goals exact ⟨rfl, by first | exact ba1 _ _ | exact btrans (ba1 _ _) (ba1 _ _)⟩
  · have hcat := emp3 ⟨#[]⟩ to_ ⟨#[]⟩
    obtain ⟨e1, he1⟩ : ∃ e1, e1 = (decide ((⟨#[]⟩ : ByteArray).size = 0) && decide ((to_ : ByteArray).size = 0) && decide ((⟨#[]⟩ : ByteArray).size = 0)) := ⟨_, rfl⟩
    rw [← he1] at hcat
    have hres : rightS ⟨1, nm, to_, tx, n, l⟩ = (e1 && decide (n = 0) && decide (l = [])) := by
      rw [he1]
      unfold rightS hasNm hasTo hasN
      clear hcat he1
      dsimp only
      generalize decide (nm.size = 0) = x1
      generalize decide (to_.size = 0) = x2
      generalize decide (tx.size = 0) = x3
      generalize decide (n = 0) = x4
      generalize decide (l = []) = x5
      cases x1 <;> cases x2 <;> cases x3 <;> cases x4 <;> cases x5 <;> rfl
    rw [hres]
    clear he1 hres
    go_enter Tryz.func43, Tryz.ntmps43
    go_wp2_with fail
    all_goals go_ret
    all_goals refine ⟨?_, by first | exact ba1 _ _ | exact btrans (ba1 _ _) (ba1 _ _)⟩
    all_goals (clear hcat; have hl3 := HL3.out; show Ending.returned (.bool _) = Ending.returned (.bool _); first | rfl | (simp_all; done) | (cases e1 <;> simp_all))
  · have hcat := emp3 ⟨#[]⟩ to_ tx
    obtain ⟨e1, he1⟩ : ∃ e1, e1 = (decide ((⟨#[]⟩ : ByteArray).size = 0) && decide ((to_ : ByteArray).size = 0) && decide ((tx : ByteArray).size = 0)) := ⟨_, rfl⟩
    rw [← he1] at hcat
    have hres : rightS ⟨2, nm, to_, tx, n, l⟩ = (e1 && decide (n = 0) && decide (l = [])) := by
      rw [he1]
      unfold rightS hasNm hasTo hasN
      clear hcat he1
      dsimp only
      generalize decide (nm.size = 0) = x1
      generalize decide (to_.size = 0) = x2
      generalize decide (tx.size = 0) = x3
      generalize decide (n = 0) = x4
      generalize decide (l = []) = x5
      cases x1 <;> cases x2 <;> cases x3 <;> cases x4 <;> cases x5 <;> rfl
    rw [hres]
    clear he1 hres
    go_enter Tryz.func43, Tryz.ntmps43
    go_wp2_with fail
    all_goals go_ret
    all_goals refine ⟨?_, by first | exact ba1 _ _ | exact btrans (ba1 _ _) (ba1 _ _)⟩
    all_goals (clear hcat; have hl3 := HL3.out; show Ending.returned (.bool _) = Ending.returned (.bool _); first | rfl | (simp_all; done) | (cases e1 <;> simp_all))
  · have hcat := emp3 ⟨#[]⟩ to_ tx
    obtain ⟨e1, he1⟩ : ∃ e1, e1 = (decide ((⟨#[]⟩ : ByteArray).size = 0) && decide ((to_ : ByteArray).size = 0) && decide ((tx : ByteArray).size = 0)) := ⟨_, rfl⟩
    rw [← he1] at hcat
    have hres : rightS ⟨3, nm, to_, tx, n, l⟩ = (e1 && decide (n = 0) && decide (l = [])) := by
      rw [he1]
      unfold rightS hasNm hasTo hasN
      clear hcat he1
      dsimp only
      generalize decide (nm.size = 0) = x1
      generalize decide (to_.size = 0) = x2
      generalize decide (tx.size = 0) = x3
      generalize decide (n = 0) = x4
      generalize decide (l = []) = x5
      cases x1 <;> cases x2 <;> cases x3 <;> cases x4 <;> cases x5 <;> rfl
    rw [hres]
    clear he1 hres
    go_enter Tryz.func43, Tryz.ntmps43
    go_wp2_with fail
    all_goals go_ret
    all_goals refine ⟨?_, by first | exact ba1 _ _ | exact btrans (ba1 _ _) (ba1 _ _)⟩
    all_goals (clear hcat; have hl3 := HL3.out; show Ending.returned (.bool _) = Ending.returned (.bool _); first | rfl | (simp_all; done) | (cases e1 <;> simp_all))
  · have hcat := emp3 ⟨#[]⟩ ⟨#[]⟩ tx
    obtain ⟨e1, he1⟩ : ∃ e1, e1 = (decide ((⟨#[]⟩ : ByteArray).size = 0) && decide ((⟨#[]⟩ : ByteArray).size = 0) && decide ((tx : ByteArray).size = 0)) := ⟨_, rfl⟩
    rw [← he1] at hcat
    have hres : rightS ⟨4, nm, to_, tx, n, l⟩ = (e1 && decide (n = 0) && decide (l = [])) := by
      rw [he1]
      unfold rightS hasNm hasTo hasN
      clear hcat he1
      dsimp only
      generalize decide (nm.size = 0) = x1
      generalize decide (to_.size = 0) = x2
      generalize decide (tx.size = 0) = x3
      generalize decide (n = 0) = x4
      generalize decide (l = []) = x5
      cases x1 <;> cases x2 <;> cases x3 <;> cases x4 <;> cases x5 <;> rfl
    rw [hres]
    clear he1 hres
    go_enter Tryz.func43, Tryz.ntmps43
    go_wp2_with fail
    all_goals go_ret
    all_goals refine ⟨?_, by first | exact ba1 _ _ | exact btrans (ba1 _ _) (ba1 _ _)⟩
    all_goals (clear hcat; have hl3 := HL3.out; show Ending.returned (.bool _) = Ending.returned (.bool _); first | rfl | (simp_all; done) | (cases e1 <;> simp_all))
  · have hcat := emp3 nm to_ tx
    obtain ⟨e1, he1⟩ : ∃ e1, e1 = (decide ((nm : ByteArray).size = 0) && decide ((to_ : ByteArray).size = 0) && decide ((tx : ByteArray).size = 0)) := ⟨_, rfl⟩
    rw [← he1] at hcat
    have hres : rightS ⟨5, nm, to_, tx, n, l⟩ = (e1 && decide (n = 0) && decide (l = [])) := by
      rw [he1]
      unfold rightS hasNm hasTo hasN
      clear hcat he1
      dsimp only
      generalize decide (nm.size = 0) = x1
      generalize decide (to_.size = 0) = x2
      generalize decide (tx.size = 0) = x3
      generalize decide (n = 0) = x4
      generalize decide (l = []) = x5
      cases x1 <;> cases x2 <;> cases x3 <;> cases x4 <;> cases x5 <;> rfl
    rw [hres]
    clear he1 hres
    go_enter Tryz.func43, Tryz.ntmps43
    go_wp2_with fail
    all_goals go_ret
    all_goals refine ⟨?_, by first | exact ba1 _ _ | exact btrans (ba1 _ _) (ba1 _ _)⟩
    all_goals (clear hcat; have hl3 := HL3.out; show Ending.returned (.bool _) = Ending.returned (.bool _); first | rfl | (simp_all; done) | (cases e1 <;> simp_all))
  · have hcat := emp3 ⟨#[]⟩ ⟨#[]⟩ tx
    obtain ⟨e1, he1⟩ : ∃ e1, e1 = (decide ((⟨#[]⟩ : ByteArray).size = 0) && decide ((⟨#[]⟩ : ByteArray).size = 0) && decide ((tx : ByteArray).size = 0)) := ⟨_, rfl⟩
    rw [← he1] at hcat
    have hres : rightS ⟨6, nm, to_, tx, n, l⟩ = (e1 && decide (n = 0) && decide (l = [])) := by
      rw [he1]
      unfold rightS hasNm hasTo hasN
      clear hcat he1
      dsimp only
      generalize decide (nm.size = 0) = x1
      generalize decide (to_.size = 0) = x2
      generalize decide (tx.size = 0) = x3
      generalize decide (n = 0) = x4
      generalize decide (l = []) = x5
      cases x1 <;> cases x2 <;> cases x3 <;> cases x4 <;> cases x5 <;> rfl
    rw [hres]
    clear he1 hres
    go_enter Tryz.func43, Tryz.ntmps43
    go_wp2_with fail
    all_goals go_ret
    all_goals refine ⟨?_, by first | exact ba1 _ _ | exact btrans (ba1 _ _) (ba1 _ _)⟩
    all_goals (clear hcat; have hl3 := HL3.out; show Ending.returned (.bool _) = Ending.returned (.bool _); first | rfl | (simp_all; done) | (cases e1 <;> simp_all))
  · have hcat := emp3 nm to_ tx
    obtain ⟨e1, he1⟩ : ∃ e1, e1 = (decide ((nm : ByteArray).size = 0) && decide ((to_ : ByteArray).size = 0) && decide ((tx : ByteArray).size = 0)) := ⟨_, rfl⟩
    rw [← he1] at hcat
    have hres : rightS ⟨7, nm, to_, tx, n, l⟩ = (e1 && decide (n = 0) && decide (l = [])) := by
      rw [he1]
      unfold rightS hasNm hasTo hasN
      clear hcat he1
      dsimp only
      generalize decide (nm.size = 0) = x1
      generalize decide (to_.size = 0) = x2
      generalize decide (tx.size = 0) = x3
      generalize decide (n = 0) = x4
      generalize decide (l = []) = x5
      cases x1 <;> cases x2 <;> cases x3 <;> cases x4 <;> cases x5 <;> rfl
    rw [hres]
    clear he1 hres
    go_enter Tryz.func43, Tryz.ntmps43
    go_wp2_with fail
    all_goals go_ret
    all_goals refine ⟨?_, by first | exact ba1 _ _ | exact btrans (ba1 _ _) (ba1 _ _)⟩
    all_goals (clear hcat; have hl3 := HL3.out; show Ending.returned (.bool _) = Ending.returned (.bool _); first | rfl | (simp_all; done) | (cases e1 <;> simp_all))
  · have hcat := emp3 nm to_ tx
    obtain ⟨e1, he1⟩ : ∃ e1, e1 = (decide ((nm : ByteArray).size = 0) && decide ((to_ : ByteArray).size = 0) && decide ((tx : ByteArray).size = 0)) := ⟨_, rfl⟩
    rw [← he1] at hcat
    have hres : rightS ⟨8, nm, to_, tx, n, l⟩ = (e1 && true && decide (l = [])) := by
      rw [he1]
      unfold rightS hasNm hasTo hasN
      clear hcat he1
      dsimp only
      generalize decide (nm.size = 0) = x1
      generalize decide (to_.size = 0) = x2
      generalize decide (tx.size = 0) = x3
      generalize decide (n = 0) = x4
      generalize decide (l = []) = x5
      cases x1 <;> cases x2 <;> cases x3 <;> cases x4 <;> cases x5 <;> rfl
    rw [hres]
    clear he1 hres
    go_enter Tryz.func43, Tryz.ntmps43
    go_wp2_with fail
    all_goals go_ret
    all_goals refine ⟨?_, by first | exact ba1 _ _ | exact btrans (ba1 _ _) (ba1 _ _)⟩
    all_goals (clear hcat; have hl3 := HL3.out; show Ending.returned (.bool _) = Ending.returned (.bool _); first | rfl | (simp_all; done) | (cases e1 <;> simp_all))
  · have hcat := emp3 nm to_ tx
    obtain ⟨e1, he1⟩ : ∃ e1, e1 = (decide ((nm : ByteArray).size = 0) && decide ((to_ : ByteArray).size = 0) && decide ((tx : ByteArray).size = 0)) := ⟨_, rfl⟩
    rw [← he1] at hcat
    have hres : rightS ⟨9, nm, to_, tx, n, l⟩ = (e1 && true && decide (l = [])) := by
      rw [he1]
      unfold rightS hasNm hasTo hasN
      clear hcat he1
      dsimp only
      generalize decide (nm.size = 0) = x1
      generalize decide (to_.size = 0) = x2
      generalize decide (tx.size = 0) = x3
      generalize decide (n = 0) = x4
      generalize decide (l = []) = x5
      cases x1 <;> cases x2 <;> cases x3 <;> cases x4 <;> cases x5 <;> rfl
    rw [hres]
    clear he1 hres
    go_enter Tryz.func43, Tryz.ntmps43
    go_wp2_with fail
    all_goals go_ret
    all_goals refine ⟨?_, by first | exact ba1 _ _ | exact btrans (ba1 _ _) (ba1 _ _)⟩
    all_goals (clear hcat; have hl3 := HL3.out; show Ending.returned (.bool _) = Ending.returned (.bool _); first | rfl | (simp_all; done) | (cases e1 <;> simp_all))
  · have hcat := emp3 nm to_ tx
    obtain ⟨e1, he1⟩ : ∃ e1, e1 = (decide ((nm : ByteArray).size = 0) && decide ((to_ : ByteArray).size = 0) && decide ((tx : ByteArray).size = 0)) := ⟨_, rfl⟩
    rw [← he1] at hcat
    have hres : rightS ⟨10, nm, to_, tx, n, l⟩ = (e1 && decide (n = 0) && true) := by
      rw [he1]
      unfold rightS hasNm hasTo hasN
      clear hcat he1
      dsimp only
      generalize decide (nm.size = 0) = x1
      generalize decide (to_.size = 0) = x2
      generalize decide (tx.size = 0) = x3
      generalize decide (n = 0) = x4
      generalize decide (l = []) = x5
      cases x1 <;> cases x2 <;> cases x3 <;> cases x4 <;> cases x5 <;> rfl
    rw [hres]
    clear he1 hres
    go_enter Tryz.func43, Tryz.ntmps43
    go_wp2_with fail
    all_goals go_ret
    all_goals refine ⟨?_, by first | exact ba1 _ _ | exact btrans (ba1 _ _) (ba1 _ _)⟩
    all_goals (clear hcat; have hl3 := HL3.out; show Ending.returned (.bool _) = Ending.returned (.bool _); first | rfl | (simp_all; done) | (cases e1 <;> simp_all))
  · have hres : rightS ⟨k, nm, to_, tx, n, l⟩ = false := by unfold rightS; rw [decide_eq_false (show ¬ k ≤ 10 by omega)]; simp
    rw [hres]
    have g0 : ((k : Int) == 0) = false := by simp; omega
    have g1 : (11 : Int) ≤ (k : Int) := by omega
    clear hres
    go_enter Tryz.func43, Tryz.ntmps43
    go_wp2_with fail
    all_goals go_ret
    all_goals exact ⟨rfl, by first | exact ba1 _ _ | exact btrans (ba1 _ _) (ba1 _ _)⟩
theorem wRight_any (k : Nat) (nm to_ tx : ByteArray) (n : Int) (l : List Bool) (A : Option Addr) (c : Nat) (w : World) (h1 : nm.size ≤ 100000000) (h2 : to_.size ≤ 100000000) (h3 : tx.size ≤ 100000000) (h4 : l.length ≤ 100000000) :
    Calls Tryz.prog 22 #[.agg #[.int .u8 (k : Nat), .string nm, .string to_, .string tx, .int .i64 n, .slice A l.length c]] w fun e w' => e = .returned (.bool (rightS ⟨k, nm, to_, tx, n, l⟩)) ∧ Below w.heap.size w w' := by
  have hr := fun (W : World) => wright_any k nm to_ tx n l A c W h1 h2 h3 h4
  have HR := hide hr
  clear hr
  go_enter Tryz.func22, Tryz.ntmps22
  go_wp2_with (go_at_call 43; refine Calls.mono (HR.out _) ?_; rintro e w1 ⟨rfl, hb1⟩)
  go_ret
  exact ⟨rfl, by first | exact hb1 | exact btrans (ba1 _ _) hb1⟩
end Go.Proofs.YtahnnebpadbopaaGreatDoor
/- Walk: wringerref29.Right (printed by gen_frg.py). -/
namespace Go.Proofs.YtahnnebpadbopaaGreatDoor
open Go.RowKit

theorem nil_size (a : ByteArray) : (a.toList = []) = (a.size = 0) := by
  have h := isEmpty_str a
  apply propext
  constructor
  · intro e
    rw [e] at h
    exact of_decide_eq_true h.symm
  · intro e
    rw [decide_eq_true e] at h
    exact List.isEmpty_iff.1 h
set_option maxRecDepth 100000 in
set_option maxHeartbeats 8000000 in
theorem rright_any (k : Nat) (nm to_ tx : ByteArray) (n : Int) (l : List Bool) (A : Option Addr) (c : Nat) (w : World) :
    Calls Tryz.prog 40 #[.agg #[.int .u8 (k : Nat), .string nm, .string to_, .string tx, .int .i64 n, .slice A l.length c]] w fun e w' => e = .returned (.bool (rightS ⟨k, nm, to_, tx, n, l⟩)) ∧ Below w.heap.size w w' := by
  have HL3 := hide (show ((l.length : Int) == 0) = decide (l = []) by cases l with | nil => rfl | cons a l => (rw [decide_eq_false (by simp)]; rw [beq_eq_false_iff_ne]; simp; omega))
  have HE1 := hide (nil_size nm)
  have HE2 := hide (nil_size to_)
  have HE3 := hide (nil_size tx)
  have HN0 := hide (show (0 = n) = (n = 0) from propext ⟨Eq.symm, Eq.symm⟩)
  have hk : k = 0 ∨ k = 1 ∨ k = 2 ∨ k = 3 ∨ k = 4 ∨ k = 5 ∨ k = 6 ∨ k = 7 ∨ k = 8 ∨ k = 9 ∨ k = 10 ∨ 10 < k := by omega
  rcases hk with rfl | rfl | rfl | rfl | rfl | rfl | rfl | rfl | rfl | rfl | rfl | hk
  · have hres : rightS ⟨0, nm, to_, tx, n, l⟩ = false := rfl
    rw [hres]
    go_enter Tryz.func40, Tryz.ntmps40
    go_wp2_with fail
    all_goals go_ret
    all_goals exact ⟨rfl, by first | exact ba1 _ _ | exact btrans (ba1 _ _) (ba1 _ _)⟩
  · have hres : rightS ⟨1, nm, to_, tx, n, l⟩ = (true && decide (to_.size = 0) && true && decide (n = 0) && decide (l = [])) := by
      unfold rightS hasNm hasTo hasN
      dsimp only
      generalize decide (nm.size = 0) = x1
      generalize decide (to_.size = 0) = x2
      generalize decide (tx.size = 0) = x3
      generalize decide (n = 0) = x4
      generalize decide (l = []) = x5
      cases x1 <;> cases x2 <;> cases x3 <;> cases x4 <;> cases x5 <;> rfl
    rw [hres]
    clear hres
    go_enter Tryz.func40, Tryz.ntmps40
    go_wp2_with fail
    all_goals go_ret
    all_goals refine ⟨?_, by first | exact ba1 _ _ | exact btrans (ba1 _ _) (ba1 _ _)⟩
    all_goals (have hl3 := HL3.out; have he1 := HE1.out; have he2 := HE2.out; have he3 := HE3.out; show Ending.returned (.bool _) = Ending.returned (.bool _); have hn0 := HN0.out; clear HL3 HE1 HE2 HE3 HN0; first | rfl | (simp only [he1, he2, he3, hn0] at *; simp_all; done) | (simp_all; done))
  · have hres : rightS ⟨2, nm, to_, tx, n, l⟩ = (true && decide (to_.size = 0) && decide (tx.size = 0) && decide (n = 0) && decide (l = [])) := by
      unfold rightS hasNm hasTo hasN
      dsimp only
      generalize decide (nm.size = 0) = x1
      generalize decide (to_.size = 0) = x2
      generalize decide (tx.size = 0) = x3
      generalize decide (n = 0) = x4
      generalize decide (l = []) = x5
      cases x1 <;> cases x2 <;> cases x3 <;> cases x4 <;> cases x5 <;> rfl
    rw [hres]
    clear hres
    go_enter Tryz.func40, Tryz.ntmps40
    go_wp2_with fail
    all_goals go_ret
    all_goals refine ⟨?_, by first | exact ba1 _ _ | exact btrans (ba1 _ _) (ba1 _ _)⟩
    all_goals (have hl3 := HL3.out; have he1 := HE1.out; have he2 := HE2.out; have he3 := HE3.out; show Ending.returned (.bool _) = Ending.returned (.bool _); have hn0 := HN0.out; clear HL3 HE1 HE2 HE3 HN0; first | rfl | (simp only [he1, he2, he3, hn0] at *; simp_all; done) | (simp_all; done))
  · have hres : rightS ⟨3, nm, to_, tx, n, l⟩ = (true && decide (to_.size = 0) && decide (tx.size = 0) && decide (n = 0) && decide (l = [])) := by
      unfold rightS hasNm hasTo hasN
      dsimp only
      generalize decide (nm.size = 0) = x1
      generalize decide (to_.size = 0) = x2
      generalize decide (tx.size = 0) = x3
      generalize decide (n = 0) = x4
      generalize decide (l = []) = x5
      cases x1 <;> cases x2 <;> cases x3 <;> cases x4 <;> cases x5 <;> rfl
    rw [hres]
    clear hres
    go_enter Tryz.func40, Tryz.ntmps40
    go_wp2_with fail
    all_goals go_ret
    all_goals refine ⟨?_, by first | exact ba1 _ _ | exact btrans (ba1 _ _) (ba1 _ _)⟩
    all_goals (have hl3 := HL3.out; have he1 := HE1.out; have he2 := HE2.out; have he3 := HE3.out; show Ending.returned (.bool _) = Ending.returned (.bool _); have hn0 := HN0.out; clear HL3 HE1 HE2 HE3 HN0; first | rfl | (simp only [he1, he2, he3, hn0] at *; simp_all; done) | (simp_all; done))
  · have hres : rightS ⟨4, nm, to_, tx, n, l⟩ = (true && true && decide (tx.size = 0) && decide (n = 0) && decide (l = [])) := by
      unfold rightS hasNm hasTo hasN
      dsimp only
      generalize decide (nm.size = 0) = x1
      generalize decide (to_.size = 0) = x2
      generalize decide (tx.size = 0) = x3
      generalize decide (n = 0) = x4
      generalize decide (l = []) = x5
      cases x1 <;> cases x2 <;> cases x3 <;> cases x4 <;> cases x5 <;> rfl
    rw [hres]
    clear hres
    go_enter Tryz.func40, Tryz.ntmps40
    go_wp2_with fail
    all_goals go_ret
    all_goals refine ⟨?_, by first | exact ba1 _ _ | exact btrans (ba1 _ _) (ba1 _ _)⟩
    all_goals (have hl3 := HL3.out; have he1 := HE1.out; have he2 := HE2.out; have he3 := HE3.out; show Ending.returned (.bool _) = Ending.returned (.bool _); have hn0 := HN0.out; clear HL3 HE1 HE2 HE3 HN0; first | rfl | (simp only [he1, he2, he3, hn0] at *; simp_all; done) | (simp_all; done))
  · have hres : rightS ⟨5, nm, to_, tx, n, l⟩ = (decide (nm.size = 0) && decide (to_.size = 0) && decide (tx.size = 0) && decide (n = 0) && decide (l = [])) := by
      unfold rightS hasNm hasTo hasN
      dsimp only
      generalize decide (nm.size = 0) = x1
      generalize decide (to_.size = 0) = x2
      generalize decide (tx.size = 0) = x3
      generalize decide (n = 0) = x4
      generalize decide (l = []) = x5
      cases x1 <;> cases x2 <;> cases x3 <;> cases x4 <;> cases x5 <;> rfl
    rw [hres]
    clear hres
    go_enter Tryz.func40, Tryz.ntmps40
    go_wp2_with fail
    all_goals go_ret
    all_goals refine ⟨?_, by first | exact ba1 _ _ | exact btrans (ba1 _ _) (ba1 _ _)⟩
    all_goals (have hl3 := HL3.out; have he1 := HE1.out; have he2 := HE2.out; have he3 := HE3.out; show Ending.returned (.bool _) = Ending.returned (.bool _); have hn0 := HN0.out; clear HL3 HE1 HE2 HE3 HN0; first | rfl | (simp only [he1, he2, he3, hn0] at *; simp_all; done) | (simp_all; done))
  · have hres : rightS ⟨6, nm, to_, tx, n, l⟩ = (true && true && decide (tx.size = 0) && decide (n = 0) && decide (l = [])) := by
      unfold rightS hasNm hasTo hasN
      dsimp only
      generalize decide (nm.size = 0) = x1
      generalize decide (to_.size = 0) = x2
      generalize decide (tx.size = 0) = x3
      generalize decide (n = 0) = x4
      generalize decide (l = []) = x5
      cases x1 <;> cases x2 <;> cases x3 <;> cases x4 <;> cases x5 <;> rfl
    rw [hres]
    clear hres
    go_enter Tryz.func40, Tryz.ntmps40
    go_wp2_with fail
    all_goals go_ret
    all_goals refine ⟨?_, by first | exact ba1 _ _ | exact btrans (ba1 _ _) (ba1 _ _)⟩
    all_goals (have hl3 := HL3.out; have he1 := HE1.out; have he2 := HE2.out; have he3 := HE3.out; show Ending.returned (.bool _) = Ending.returned (.bool _); have hn0 := HN0.out; clear HL3 HE1 HE2 HE3 HN0; first | rfl | (simp only [he1, he2, he3, hn0] at *; simp_all; done) | (simp_all; done))
  · have hres : rightS ⟨7, nm, to_, tx, n, l⟩ = (decide (nm.size = 0) && decide (to_.size = 0) && decide (tx.size = 0) && decide (n = 0) && decide (l = [])) := by
      unfold rightS hasNm hasTo hasN
      dsimp only
      generalize decide (nm.size = 0) = x1
      generalize decide (to_.size = 0) = x2
      generalize decide (tx.size = 0) = x3
      generalize decide (n = 0) = x4
      generalize decide (l = []) = x5
      cases x1 <;> cases x2 <;> cases x3 <;> cases x4 <;> cases x5 <;> rfl
    rw [hres]
    clear hres
    go_enter Tryz.func40, Tryz.ntmps40
    go_wp2_with fail
    all_goals go_ret
    all_goals refine ⟨?_, by first | exact ba1 _ _ | exact btrans (ba1 _ _) (ba1 _ _)⟩
    all_goals (have hl3 := HL3.out; have he1 := HE1.out; have he2 := HE2.out; have he3 := HE3.out; show Ending.returned (.bool _) = Ending.returned (.bool _); have hn0 := HN0.out; clear HL3 HE1 HE2 HE3 HN0; first | rfl | (simp only [he1, he2, he3, hn0] at *; simp_all; done) | (simp_all; done))
  · have hres : rightS ⟨8, nm, to_, tx, n, l⟩ = (decide (nm.size = 0) && decide (to_.size = 0) && decide (tx.size = 0) && true && decide (l = [])) := by
      unfold rightS hasNm hasTo hasN
      dsimp only
      generalize decide (nm.size = 0) = x1
      generalize decide (to_.size = 0) = x2
      generalize decide (tx.size = 0) = x3
      generalize decide (n = 0) = x4
      generalize decide (l = []) = x5
      cases x1 <;> cases x2 <;> cases x3 <;> cases x4 <;> cases x5 <;> rfl
    rw [hres]
    clear hres
    go_enter Tryz.func40, Tryz.ntmps40
    go_wp2_with fail
    all_goals go_ret
    all_goals refine ⟨?_, by first | exact ba1 _ _ | exact btrans (ba1 _ _) (ba1 _ _)⟩
    all_goals (have hl3 := HL3.out; have he1 := HE1.out; have he2 := HE2.out; have he3 := HE3.out; show Ending.returned (.bool _) = Ending.returned (.bool _); have hn0 := HN0.out; clear HL3 HE1 HE2 HE3 HN0; first | rfl | (simp only [he1, he2, he3, hn0] at *; simp_all; done) | (simp_all; done))
  · have hres : rightS ⟨9, nm, to_, tx, n, l⟩ = (decide (nm.size = 0) && decide (to_.size = 0) && decide (tx.size = 0) && true && decide (l = [])) := by
      unfold rightS hasNm hasTo hasN
      dsimp only
      generalize decide (nm.size = 0) = x1
      generalize decide (to_.size = 0) = x2
      generalize decide (tx.size = 0) = x3
      generalize decide (n = 0) = x4
      generalize decide (l = []) = x5
      cases x1 <;> cases x2 <;> cases x3 <;> cases x4 <;> cases x5 <;> rfl
    rw [hres]
    clear hres
    go_enter Tryz.func40, Tryz.ntmps40
    go_wp2_with fail
    all_goals go_ret
    all_goals refine ⟨?_, by first | exact ba1 _ _ | exact btrans (ba1 _ _) (ba1 _ _)⟩
    all_goals (have hl3 := HL3.out; have he1 := HE1.out; have he2 := HE2.out; have he3 := HE3.out; show Ending.returned (.bool _) = Ending.returned (.bool _); have hn0 := HN0.out; clear HL3 HE1 HE2 HE3 HN0; first | rfl | (simp only [he1, he2, he3, hn0] at *; simp_all; done) | (simp_all; done))
  · have hres : rightS ⟨10, nm, to_, tx, n, l⟩ = (decide (nm.size = 0) && decide (to_.size = 0) && decide (tx.size = 0) && decide (n = 0) && true) := by
      unfold rightS hasNm hasTo hasN
      dsimp only
      generalize decide (nm.size = 0) = x1
      generalize decide (to_.size = 0) = x2
      generalize decide (tx.size = 0) = x3
      generalize decide (n = 0) = x4
      generalize decide (l = []) = x5
      cases x1 <;> cases x2 <;> cases x3 <;> cases x4 <;> cases x5 <;> rfl
    rw [hres]
    clear hres
    go_enter Tryz.func40, Tryz.ntmps40
    go_wp2_with fail
    all_goals go_ret
    all_goals refine ⟨?_, by first | exact ba1 _ _ | exact btrans (ba1 _ _) (ba1 _ _)⟩
    all_goals (have hl3 := HL3.out; have he1 := HE1.out; have he2 := HE2.out; have he3 := HE3.out; show Ending.returned (.bool _) = Ending.returned (.bool _); have hn0 := HN0.out; clear HL3 HE1 HE2 HE3 HN0; first | rfl | (simp only [he1, he2, he3, hn0] at *; simp_all; done) | (simp_all; done))
  · have hres : rightS ⟨k, nm, to_, tx, n, l⟩ = false := by unfold rightS; rw [decide_eq_false (show ¬ k ≤ 10 by omega)]; simp
    rw [hres]
    have g0 : ((k : Int) == 0) = false := by simp; omega
    have g1 : (11 : Int) ≤ (k : Int) := by omega
    have q1 : ((k : Int) == 1) = false := by simp; omega
    have q2 : ((k : Int) == 2) = false := by simp; omega
    have q3 : ((k : Int) == 3) = false := by simp; omega
    have q4 : ((k : Int) == 4) = false := by simp; omega
    have q5 : ((k : Int) == 5) = false := by simp; omega
    have q6 : ((k : Int) == 6) = false := by simp; omega
    have q7 : ((k : Int) == 7) = false := by simp; omega
    have q8 : ((k : Int) == 8) = false := by simp; omega
    have q9 : ((k : Int) == 9) = false := by simp; omega
    have q10 : ((k : Int) == 10) = false := by simp; omega
    clear hres
    go_enter Tryz.func40, Tryz.ntmps40
    go_wp2_with fail
    all_goals go_ret
    all_goals exact ⟨rfl, by first | exact ba1 _ _ | exact btrans (ba1 _ _) (ba1 _ _)⟩
end Go.Proofs.YtahnnebpadbopaaGreatDoor
/- Walk: wringerref32.line (printed by gen_frh.py). -/
namespace Go.Proofs.YtahnnebpadbopaaGreatDoor
open Go.RowKit

theorem q_size (x : ByteArray) (h : x.size ≤ 100000000) : (blB (quoteB (bl x))).size ≤ 400000002 := by
  rw [← bl_size, bl_blB]
  have := quote_max (bl x)
  rw [bl_size] at this
  unfold quoteB
  rw [List.length_cons, List.length_append, List.length_singleton]
  omega
theorem i_size (n : Int) (h : fitsN n = true) : (blB (Lib.itoa n)).size ≤ 100 := by
  rw [← bl_size, bl_blB]
  unfold fitsN at h
  simp only [Bool.and_eq_true, decide_eq_true_eq] at h
  have := itoa_length n h.1 h.2
  omega
/-- A crash's line, of what is kept. -/
def crashL (l : List Bool) : List UInt8 := [99, 114, 97, 115, 104] ++ (if l = [] then [] else 32 :: keptB l)
theorem crashL_len (l : List Bool) : (crashL l).length ≤ l.length + 6 := by
  unfold crashL keptB
  split <;> simp <;> omega
theorem crashL_more (l : List Bool) (x : Bool) (h : l ≠ []) : crashL (l ++ [x]) = crashL l ++ [if x then 49 else 48] := by
  unfold crashL
  rw [if_neg h, if_neg (by simp)]
  simp [keptB]
theorem crashL_line (nm to_ tx : ByteArray) (n : Int) (l : List Bool) : lineB ⟨10, nm, to_, tx, n, l⟩ = crashL l := by
  unfold lineB argsB crashL
  by_cases h : l = []
  · subst h; rfl
  · simp [h, verbB]
def lineV (o : Option (List UInt8)) : Value := .tuple #[.string (blB (o.getD [])), .bool o.isSome]
set_option maxRecDepth 100000 in
set_option maxHeartbeats 8000000 in
theorem rline_any (k : Nat) (nm to_ tx : ByteArray) (n : Int) (l : List Bool) (A : Option Addr) (c : Nat) (w : World) (h1 : nm.size ≤ 100000000) (h2 : to_.size ≤ 100000000) (h3 : tx.size ≤ 100000000) (h4 : l.length ≤ 100000000) (hA : Rd w w.heap.size A (l.map .bool)) :
    Calls Tryz.prog 21 #[.agg #[.int .u8 (k : Nat), .string nm, .string to_, .string tx, .int .i64 n, .slice A l.length c]] w fun e w' => e = .returned (lineV (rlineB ⟨k, nm, to_, tx, n, l⟩)) ∧ Below w.heap.size w w' := by
  have hr := fun (W : World) => rright_any k nm to_ tx n l A c W
  obtain ⟨rt, hrt⟩ : ∃ rt, rt = rightS ⟨k, nm, to_, tx, n, l⟩ := ⟨_, rfl⟩
  rw [← hrt] at hr
  have HR := hide hr
  have hf := fun (W : World) => fits_any n W
  obtain ⟨ft, hft⟩ : ∃ ft, ft = fitsN n := ⟨_, rfl⟩
  rw [← hft] at hf
  have HF := hide hf
  have HRt := hide hrt
  have HFt := hide hft
  have HA := hide hA
  clear hr hf hrt hft hA
  have hl : rlineB ⟨k, nm, to_, tx, n, l⟩ = if rt && ft then some (lineB ⟨k, nm, to_, tx, n, l⟩) else none := by unfold rlineB; rw [HRt.out, HFt.out]
  rw [hl]
  clear hl
  cases rt with
  | false =>
    show Calls Tryz.prog 21 _ w fun e w' => e = .returned (lineV none) ∧ Below w.heap.size w w'
    go_enter Tryz.func21, Tryz.ntmps21
    go_wp2_with (go_at_call 40; refine Calls.mono (HR.out _) ?_; rintro e w1 ⟨rfl, hb1⟩; have HB1 := hide hb1; clear hb1)
    refine bodyPost_ret (v := .tuple #[.string ⟨#[]⟩, .bool false]) (by simp [results, Tryz.results21, go_sem]) rfl ?_
    exact ⟨rfl, btrans (ba1 _ _) HB1.out⟩
  | true =>
    cases ft with
    | false =>
      show Calls Tryz.prog 21 _ w fun e w' => e = .returned (lineV none) ∧ Below w.heap.size w w'
      go_enter Tryz.func21, Tryz.ntmps21
      go_wp2_with (first | (go_at_call 40; refine Calls.mono (HR.out _) ?_; rintro e w1 ⟨rfl, hb1⟩; have kk := (Bk.new w 39 _).keep hb1; have g4 := kk.cell 4; have lk := kk.lt; have HB1 := hide hb1; clear hb1 kk) | (go_at_call 41; refine Calls.mono (HF.out _) ?_; rintro e w2 ⟨rfl, rfl⟩))
      refine bodyPost_ret (v := .tuple #[.string ⟨#[]⟩, .bool false]) (by simp [results, Tryz.results21, go_sem]) rfl ?_
      exact ⟨rfl, btrans (ba1 _ _) HB1.out⟩
    | true =>
      show Calls Tryz.prog 21 _ w fun e w' => e = .returned (lineV (some (lineB ⟨k, nm, to_, tx, n, l⟩))) ∧ Below w.heap.size w w'
      obtain ⟨r1, r2, _⟩ := right_parts HRt.out.symm
      dsimp only at r1 r2
      have hk : k = 1 ∨ k = 2 ∨ k = 3 ∨ k = 4 ∨ k = 5 ∨ k = 6 ∨ k = 7 ∨ k = 8 ∨ k = 9 ∨ k = 10 := by omega
      clear r1 r2
      rcases hk with rfl | rfl | rfl | rfl | rfl | rfl | rfl | rfl | rfl | rfl
      · have z1 := q_size nm h1
        have z2 := q_size tx h3
        have y1 : ¬ 9223372036854775807 < 4 + (blB (quoteB (bl nm))).size := by omega
        have y2 : ¬ 9223372036854775807 < 4 + (blB (quoteB (bl nm))).size + 1 := by omega
        have y3 : ¬ 9223372036854775807 < 4 + (blB (quoteB (bl nm))).size + 1 + (blB (quoteB (bl tx))).size := by omega
        clear z1 z2
        go_enter Tryz.func21, Tryz.ntmps21
        go_wp2_with (first | (go_at_call 40; refine Calls.mono (HR.out _) ?_; rintro e w1 ⟨rfl, hb1⟩; have kk := (Bk.new w 39 _).keep hb1; have g0 := kk.cell 0; have g1 := kk.cell 1; have g2 := kk.cell 2; have g3 := kk.cell 3; have g4 := kk.cell 4; have g5 := kk.cell 5; have lk := kk.lt; have HB1 := hide hb1; clear hb1 kk) | (go_at_call 41; refine Calls.mono (HF.out _) ?_; rintro e w2 ⟨rfl, rfl⟩))
        go_quiet ((go_at_call 16; exact Calls.quiet_of (rquote_any _ _ (by assumption))))
        go_wp2_with fail
        refine bodyPost_ret (v := .tuple #[.string ((⟨#[112, 117, 116, 32]⟩ : ByteArray) ++ (blB (quoteB (bl nm))) ++ (⟨#[32]⟩ : ByteArray) ++ (blB (quoteB (bl tx)))), .bool true]) (by simp [results, Tryz.results21, go_sem]) rfl ?_
        exact ⟨by rw [show (⟨#[112, 117, 116, 32]⟩ : ByteArray) = blB [112, 117, 116, 32] from rfl, show (⟨#[32]⟩ : ByteArray) = blB [32] from rfl, blB_app, blB_app, blB_app, List.append_assoc, List.append_assoc]; rfl, (btrans (ba1 _ _) HB1.out).trans (below_nq _ _)⟩
      · have z1 := q_size nm h1
        have y1 : ¬ 9223372036854775807 < 4 + (blB (quoteB (bl nm))).size := by omega
        clear z1
        go_enter Tryz.func21, Tryz.ntmps21
        go_wp2_with (first | (go_at_call 40; refine Calls.mono (HR.out _) ?_; rintro e w1 ⟨rfl, hb1⟩; have kk := (Bk.new w 39 _).keep hb1; have g0 := kk.cell 0; have g1 := kk.cell 1; have g2 := kk.cell 2; have g3 := kk.cell 3; have g4 := kk.cell 4; have g5 := kk.cell 5; have lk := kk.lt; have HB1 := hide hb1; clear hb1 kk) | (go_at_call 41; refine Calls.mono (HF.out _) ?_; rintro e w2 ⟨rfl, rfl⟩) | (go_at_call 16; refine Calls.mono (rquote_any _ _ (by assumption)) ?_; rintro e w3 ⟨rfl, hn3⟩; have HN := hide hn3; clear hn3))
        refine bodyPost_ret (v := .tuple #[.string ((⟨#[103, 101, 116, 32]⟩ : ByteArray) ++ (blB (quoteB (bl nm)))), .bool true]) (by simp [results, Tryz.results21, go_sem]) rfl ?_
        exact ⟨by rw [show (⟨#[103, 101, 116, 32]⟩ : ByteArray) = blB [103, 101, 116, 32] from rfl, blB_app]; rfl, (btrans (ba1 _ _) HB1.out).trans (by obtain ⟨q, rfl⟩ := HN.out; exact below_nq _ _)⟩
      · have z1 := q_size nm h1
        have y1 : ¬ 9223372036854775807 < 5 + (blB (quoteB (bl nm))).size := by omega
        clear z1
        go_enter Tryz.func21, Tryz.ntmps21
        go_wp2_with (first | (go_at_call 40; refine Calls.mono (HR.out _) ?_; rintro e w1 ⟨rfl, hb1⟩; have kk := (Bk.new w 39 _).keep hb1; have g0 := kk.cell 0; have g1 := kk.cell 1; have g2 := kk.cell 2; have g3 := kk.cell 3; have g4 := kk.cell 4; have g5 := kk.cell 5; have lk := kk.lt; have HB1 := hide hb1; clear hb1 kk) | (go_at_call 41; refine Calls.mono (HF.out _) ?_; rintro e w2 ⟨rfl, rfl⟩) | (go_at_call 16; refine Calls.mono (rquote_any _ _ (by assumption)) ?_; rintro e w3 ⟨rfl, hn3⟩; have HN := hide hn3; clear hn3))
        refine bodyPost_ret (v := .tuple #[.string ((⟨#[102, 114, 101, 101, 32]⟩ : ByteArray) ++ (blB (quoteB (bl nm)))), .bool true]) (by simp [results, Tryz.results21, go_sem]) rfl ?_
        exact ⟨by rw [show (⟨#[102, 114, 101, 101, 32]⟩ : ByteArray) = blB [102, 114, 101, 101, 32] from rfl, blB_app]; rfl, (btrans (ba1 _ _) HB1.out).trans (by obtain ⟨q, rfl⟩ := HN.out; exact below_nq _ _)⟩
      · have z1 := q_size nm h1
        have z2 := q_size to_ h2
        have y1 : ¬ 9223372036854775807 < 6 + (blB (quoteB (bl nm))).size := by omega
        have y2 : ¬ 9223372036854775807 < 6 + (blB (quoteB (bl nm))).size + 1 := by omega
        have y3 : ¬ 9223372036854775807 < 6 + (blB (quoteB (bl nm))).size + 1 + (blB (quoteB (bl to_))).size := by omega
        clear z1 z2
        go_enter Tryz.func21, Tryz.ntmps21
        go_wp2_with (first | (go_at_call 40; refine Calls.mono (HR.out _) ?_; rintro e w1 ⟨rfl, hb1⟩; have kk := (Bk.new w 39 _).keep hb1; have g0 := kk.cell 0; have g1 := kk.cell 1; have g2 := kk.cell 2; have g3 := kk.cell 3; have g4 := kk.cell 4; have g5 := kk.cell 5; have lk := kk.lt; have HB1 := hide hb1; clear hb1 kk) | (go_at_call 41; refine Calls.mono (HF.out _) ?_; rintro e w2 ⟨rfl, rfl⟩))
        go_quiet ((go_at_call 16; exact Calls.quiet_of (rquote_any _ _ (by assumption))))
        go_wp2_with fail
        refine bodyPost_ret (v := .tuple #[.string ((⟨#[112, 114, 101, 115, 115, 32]⟩ : ByteArray) ++ (blB (quoteB (bl nm))) ++ (⟨#[32]⟩ : ByteArray) ++ (blB (quoteB (bl to_)))), .bool true]) (by simp [results, Tryz.results21, go_sem]) rfl ?_
        exact ⟨by rw [show (⟨#[112, 114, 101, 115, 115, 32]⟩ : ByteArray) = blB [112, 114, 101, 115, 115, 32] from rfl, show (⟨#[32]⟩ : ByteArray) = blB [32] from rfl, blB_app, blB_app, blB_app, List.append_assoc, List.append_assoc]; rfl, (btrans (ba1 _ _) HB1.out).trans (below_nq _ _)⟩
      · go_enter Tryz.func21, Tryz.ntmps21
        go_wp2_with (first | (go_at_call 40; refine Calls.mono (HR.out _) ?_; rintro e w1 ⟨rfl, hb1⟩; have kk := (Bk.new w 39 _).keep hb1; have g0 := kk.cell 0; have g1 := kk.cell 1; have g2 := kk.cell 2; have g3 := kk.cell 3; have g4 := kk.cell 4; have g5 := kk.cell 5; have lk := kk.lt; have HB1 := hide hb1; clear hb1 kk) | (go_at_call 41; refine Calls.mono (HF.out _) ?_; rintro e w2 ⟨rfl, rfl⟩))
        refine bodyPost_ret (v := .tuple #[.string ⟨#[114, 101, 115, 117, 109, 101]⟩, .bool true]) (by simp [results, Tryz.results21, go_sem]) rfl ?_
        exact ⟨rfl, btrans (ba1 _ _) HB1.out⟩
      · have z1 := q_size nm h1
        have z2 := q_size to_ h2
        have y1 : ¬ 9223372036854775807 < 5 + (blB (quoteB (bl nm))).size := by omega
        have y2 : ¬ 9223372036854775807 < 5 + (blB (quoteB (bl nm))).size + 1 := by omega
        have y3 : ¬ 9223372036854775807 < 5 + (blB (quoteB (bl nm))).size + 1 + (blB (quoteB (bl to_))).size := by omega
        clear z1 z2
        go_enter Tryz.func21, Tryz.ntmps21
        go_wp2_with (first | (go_at_call 40; refine Calls.mono (HR.out _) ?_; rintro e w1 ⟨rfl, hb1⟩; have kk := (Bk.new w 39 _).keep hb1; have g0 := kk.cell 0; have g1 := kk.cell 1; have g2 := kk.cell 2; have g3 := kk.cell 3; have g4 := kk.cell 4; have g5 := kk.cell 5; have lk := kk.lt; have HB1 := hide hb1; clear hb1 kk) | (go_at_call 41; refine Calls.mono (HF.out _) ?_; rintro e w2 ⟨rfl, rfl⟩))
        go_quiet ((go_at_call 16; exact Calls.quiet_of (rquote_any _ _ (by assumption))))
        go_wp2_with fail
        refine bodyPost_ret (v := .tuple #[.string ((⟨#[98, 97, 99, 107, 32]⟩ : ByteArray) ++ (blB (quoteB (bl nm))) ++ (⟨#[32]⟩ : ByteArray) ++ (blB (quoteB (bl to_)))), .bool true]) (by simp [results, Tryz.results21, go_sem]) rfl ?_
        exact ⟨by rw [show (⟨#[98, 97, 99, 107, 32]⟩ : ByteArray) = blB [98, 97, 99, 107, 32] from rfl, show (⟨#[32]⟩ : ByteArray) = blB [32] from rfl, blB_app, blB_app, blB_app, List.append_assoc, List.append_assoc]; rfl, (btrans (ba1 _ _) HB1.out).trans (below_nq _ _)⟩
      · go_enter Tryz.func21, Tryz.ntmps21
        go_wp2_with (first | (go_at_call 40; refine Calls.mono (HR.out _) ?_; rintro e w1 ⟨rfl, hb1⟩; have kk := (Bk.new w 39 _).keep hb1; have g0 := kk.cell 0; have g1 := kk.cell 1; have g2 := kk.cell 2; have g3 := kk.cell 3; have g4 := kk.cell 4; have g5 := kk.cell 5; have lk := kk.lt; have HB1 := hide hb1; clear hb1 kk) | (go_at_call 41; refine Calls.mono (HF.out _) ?_; rintro e w2 ⟨rfl, rfl⟩))
        refine bodyPost_ret (v := .tuple #[.string ⟨#[99, 97, 110, 99, 101, 108]⟩, .bool true]) (by simp [results, Tryz.results21, go_sem]) rfl ?_
        exact ⟨rfl, btrans (ba1 _ _) HB1.out⟩
      · have z1 := i_size n HFt.out.symm
        have y1 : ¬ 9223372036854775807 < 7 + (blB (Lib.itoa n)).size := by omega
        clear z1
        have hdg := fun W => digits_any n W HFt.out.symm
        have HDg := hide hdg
        clear hdg
        go_enter Tryz.func21, Tryz.ntmps21
        go_wp2_with (first | (go_at_call 40; refine Calls.mono (HR.out _) ?_; rintro e w1 ⟨rfl, hb1⟩; have kk := (Bk.new w 39 _).keep hb1; have g0 := kk.cell 0; have g1 := kk.cell 1; have g2 := kk.cell 2; have g3 := kk.cell 3; have g4 := kk.cell 4; have g5 := kk.cell 5; have lk := kk.lt; have HB1 := hide hb1; clear hb1 kk) | (go_at_call 41; refine Calls.mono (HF.out _) ?_; rintro e w2 ⟨rfl, rfl⟩) | (go_at_call 42; refine Calls.mono (HDg.out _) ?_; rintro e w3 ⟨rfl, hn3⟩; have HN := hide hn3; clear hn3))
        refine bodyPost_ret (v := .tuple #[.string ((⟨#[98, 117, 100, 103, 101, 116, 32]⟩ : ByteArray) ++ (blB (Lib.itoa n))), .bool true]) (by simp [results, Tryz.results21, go_sem]) rfl ?_
        exact ⟨by rw [show (⟨#[98, 117, 100, 103, 101, 116, 32]⟩ : ByteArray) = blB [98, 117, 100, 103, 101, 116, 32] from rfl, blB_app]; rfl, (btrans (ba1 _ _) HB1.out).trans (by obtain ⟨q, rfl⟩ := HN.out; exact below_nq _ _)⟩
      · have z1 := i_size n HFt.out.symm
        have y1 : ¬ 9223372036854775807 < 5 + (blB (Lib.itoa n)).size := by omega
        clear z1
        have hdg := fun W => digits_any n W HFt.out.symm
        have HDg := hide hdg
        clear hdg
        go_enter Tryz.func21, Tryz.ntmps21
        go_wp2_with (first | (go_at_call 40; refine Calls.mono (HR.out _) ?_; rintro e w1 ⟨rfl, hb1⟩; have kk := (Bk.new w 39 _).keep hb1; have g0 := kk.cell 0; have g1 := kk.cell 1; have g2 := kk.cell 2; have g3 := kk.cell 3; have g4 := kk.cell 4; have g5 := kk.cell 5; have lk := kk.lt; have HB1 := hide hb1; clear hb1 kk) | (go_at_call 41; refine Calls.mono (HF.out _) ?_; rintro e w2 ⟨rfl, rfl⟩) | (go_at_call 42; refine Calls.mono (HDg.out _) ?_; rintro e w3 ⟨rfl, hn3⟩; have HN := hide hn3; clear hn3))
        refine bodyPost_ret (v := .tuple #[.string ((⟨#[102, 117, 115, 101, 32]⟩ : ByteArray) ++ (blB (Lib.itoa n))), .bool true]) (by simp [results, Tryz.results21, go_sem]) rfl ?_
        exact ⟨by rw [show (⟨#[102, 117, 115, 101, 32]⟩ : ByteArray) = blB [102, 117, 115, 101, 32] from rfl, blB_app]; rfl, (btrans (ba1 _ _) HB1.out).trans (by obtain ⟨q, rfl⟩ := HN.out; exact below_nq _ _)⟩
      · go_enter Tryz.func21, Tryz.ntmps21
        go_wp2_with (first | (go_at_call 40; refine Calls.mono (HR.out _) ?_; rintro e w1 ⟨rfl, hb1⟩; have kk := (Bk.new w 39 _).keep hb1; have g0 := kk.cell 0; have g1 := kk.cell 1; have g2 := kk.cell 2; have g3 := kk.cell 3; have g4 := kk.cell 4; have g5 := kk.cell 5; have lk := kk.lt; have HB1 := hide hb1; clear hb1 kk) | (go_at_call 41; refine Calls.mono (HF.out _) ?_; rintro e w2 ⟨rfl, rfl⟩))
        go_loopw [4, 82] (fun ov iv wr => ∃ j : Nat, iv = .int .i64 j ∧ j ≤ l.length ∧ wr = w2 ∧ ov = .string (blB (crashL (l.take j)))) (fun _ iv _ => l.length - (intOf iv).toNat)
        case atStart => exact ⟨0, rfl, by omega, rfl, rfl⟩
        case round =>
          clear g0 g1 g2 g3 g4 g5
          obtain ⟨j, rfl, hj, rfl, rfl⟩ := hrel
          obtain ⟨O, hO⟩ : ∃ O, O = blB (crashL (l.take j)) := ⟨_, rfl⟩
          have hOs : O.size ≤ 200000000 := by
            rw [hO, ← bl_size, bl_blB]
            have := crashL_len (l.take j)
            rw [List.length_take] at this
            omega
          rw [← hO]
          have HO := hide hO
          clear hO
          have y1 : ¬ 9223372036854775807 < O.size + 1 := by omega
          have y2 : ¬ 9223372036854775807 < O.size + 1 + 1 := by omega
          by_cases hlt : j < l.length
          · obtain ⟨x, hx⟩ : ∃ x, l[j]? = some x := ⟨l[j], by simp [hlt]⟩
            obtain ⟨b, o, rfl, hb, hc⟩ := HA.out j (.bool x) (by rw [List.getElem?_map, hx]; rfl)
            have hc1 := ((btrans (ba1 w _) HB1.out).cell (p := ⟨b, o + j, none⟩) hb).trans hc
            have hts : l.take (j + 1) = l.take j ++ [x] := by rw [List.take_add_one, hx]; rfl
            have HTs := hide hts
            have HHb := hide hb
            clear hc hx hts hb
            cases x with
            | true =>
              by_cases h0 : j = 0
              · subst h0
                rw [Nat.add_zero] at hc1
                go_wp2_with fail
                exact ⟨⟨1, by simp, by omega, trivial, by rw [HO.out, HTs.out]; rfl⟩, by simp [intOf]; omega⟩
              · have h0i : ((j : Int) == 0) = false := by simp; omega
                have H0 := hide h0
                clear h0
                go_wp2_with fail
                exact ⟨⟨j + 1, by simp, by omega, trivial, by rw [HO.out, HTs.out, crashL_more _ _ (fun e => by have e2 := congrArg List.length e; rw [List.length_take, List.length_nil] at e2; have := H0.out; omega), ← blB_app]; rfl⟩, by simp [intOf]; omega⟩
            | false =>
              by_cases h0 : j = 0
              · subst h0
                rw [Nat.add_zero] at hc1
                go_wp2_with fail
                exact ⟨⟨1, by simp, by omega, trivial, by rw [HO.out, HTs.out]; rfl⟩, by simp [intOf]; omega⟩
              · have h0i : ((j : Int) == 0) = false := by simp; omega
                have H0 := hide h0
                clear h0
                go_wp2_with fail
                exact ⟨⟨j + 1, by simp, by omega, trivial, by rw [HO.out, HTs.out, crashL_more _ _ (fun e => by have e2 := congrArg List.length e; rw [List.length_take, List.length_nil] at e2; have := H0.out; omega), ← blB_app]; rfl⟩, by simp [intOf]; omega⟩
          · obtain rfl : j = l.length := by omega
            go_wp2_with fail
            refine bodyPost_ret (v := .tuple #[.string O, .bool true]) (by simp [results, Tryz.results21, go_sem]) rfl ?_
            exact ⟨by rw [HO.out, List.take_length, crashL_line]; rfl, btrans (ba1 _ _) HB1.out⟩
end Go.Proofs.YtahnnebpadbopaaGreatDoor
/- Walk: wringerref32.Write. -/
namespace Go.Proofs.YtahnnebpadbopaaGreatDoor
open Go.RowKit

/-- Steps of bounded texts. -/
def SmS (l : List Stp) : Prop := ∀ s ∈ l, s.nm.size ≤ 2000000 ∧ s.to_.size ≤ 2000000 ∧ s.tx.size ≤ 2000000 ∧ s.keep.length ≤ 2000000
theorem line_len {s : Stp} (hf : fitsN s.n = true) (h : s.nm.size ≤ 2000000 ∧ s.to_.size ≤ 2000000 ∧ s.tx.size ≤ 2000000 ∧ s.keep.length ≤ 2000000) : (lineB s).length ≤ 20000000 := by
  obtain ⟨a1, a2, a3, a4⟩ := h
  have hv : (verbB s.kind).length ≤ 6 := by
    unfold verbB
    split <;> simp
  have q := fun (x : ByteArray) (hx : x.size ≤ 2000000) => show (quoteB (bl x)).length ≤ 8000002 from by
    have := quote_max (bl x)
    rw [bl_size] at this
    unfold quoteB
    rw [List.length_cons, List.length_append, List.length_singleton]
    omega
  have q1 := q _ a1
  have q2 := q _ a2
  have q3 := q _ a3
  have q4 : (Lib.itoa s.n).length ≤ 10 := by
    unfold fitsN at hf
    simp only [Bool.and_eq_true, decide_eq_true_eq] at hf
    exact itoa_length _ hf.1 hf.2
  have q5 : (keptB s.keep).length ≤ 2000000 := by unfold keptB; rw [List.length_map]; exact a4
  unfold lineB argsB
  rw [List.length_append]
  split
  · rw [List.length_cons, List.length_append, List.length_cons]; omega
  · split
    · rw [List.length_cons]; omega
    · split
      · rw [List.length_cons, List.length_append, List.length_cons]; omega
      · split
        · rw [List.length_cons]; omega
        · split
          · rw [List.length_cons]; omega
          · rw [List.length_nil]; omega
/-- What is written of steps, one behind the other. -/
def wrF : List UInt8 → List Stp → Option (List UInt8)
  | o, [] => some o
  | o, s :: l => match rlineB s with
    | none => none
    | some t => wrF (o ++ (t ++ [10])) l
theorem wrF_eq : ∀ (l : List Stp) (o : List UInt8), wrF o l = (writeB l).map fun t => o ++ t := by
  intro l
  induction l with
  | nil => intro o; simp [wrF, writeB]
  | cons s l ih =>
    intro o
    rw [wrF, writeB]
    unfold rlineB
    by_cases h : (rightS s && fitsN s.n) = true
    · rw [if_pos h, if_pos h]
      simp only
      rw [ih]
      cases writeB l with
      | none => rfl
      | some t => simp
    · rw [if_neg h, if_neg h]
      rfl
def writeV (o : Option (List UInt8)) : Value := match o with
  | some t => .tuple #[.string (blB t), .int .i64 0]
  | none => .tuple #[.string ⟨#[]⟩, .int .i64 2]
set_option maxRecDepth 100000 in
set_option maxHeartbeats 8000000 in
theorem rwrite_any (l : List Stp) (A : Option Addr) (c : Nat) (w : World) (hA : StsR w w.heap.size A l) (hs : SmS l) (hl : l.length ≤ 2000000) :
    Calls Tryz.prog 10 #[.slice A l.length c] w fun e w' => e = .returned (writeV (writeB l)) ∧ Below w.heap.size w w' := by
  obtain ⟨R, hR⟩ : ∃ R, R = writeB l := ⟨_, rfl⟩
  rw [← hR]
  have hR0 : R = wrF [] l := by rw [wrF_eq, hR]; cases writeB l <;> simp
  have HR0 := hide hR0
  have HA := hide hA
  have HS := hide hs
  clear hR hR0 hA hs
  go_enter Tryz.func10, Tryz.ntmps10
  go_wp2_with fail
  go_loopw [4, 11] (fun ov iv wr => ∃ (k : Nat) (o : List UInt8), ov = .string (blB o) ∧ iv = .int .i64 k ∧ k ≤ l.length ∧ Hid (R = wrF o (l.drop k)) ∧ Hid (Below w.heap.size w wr) ∧ o.length ≤ 20000001 * k) (fun _ iv _ => l.length - (intOf iv).toNat)
  case atStart => exact ⟨0, [], rfl, rfl, by omega, HR0, hide (Below.refl _ _), by simp⟩
  case round =>
    clear HR0
    obtain ⟨k, o, rfl, rfl, hk, hR, hbe, hol⟩ := hrel
    by_cases hlt : k < l.length
    · obtain ⟨s, hsk⟩ : ∃ s, l[k]? = some s := ⟨l[k], by simp [hlt]⟩
      obtain ⟨b, of, kv, rfl, hb, hkv, c0, c1, c2, c3, c4, c5⟩ := stp_cells (HA.out.below hbe.out) hsk
      have hbr : b < _ := Nat.lt_of_lt_of_le hb hbe.out.size
      obtain ⟨K, ck, rfl, hK⟩ := hkv
      have hsm := HS.out s (List.mem_of_getElem? hsk)
      have hz := hbe.out.size
      have hdr : l.drop k = s :: l.drop (k + 1) := by rw [List.drop_eq_getElem_cons hlt]; congr 1; rw [List.getElem?_eq_getElem hlt] at hsk; exact Option.some.inj hsk
      have hR2 : R = match rlineB s with
        | none => none
        | some t => wrF (o ++ (t ++ [10])) (l.drop (k + 1)) := by rw [hR.out, hdr]; rfl
      have hll := fun hf => line_len (s := s) hf hsm
      obtain ⟨kind, nm, to_, tx, n, keep⟩ := s
      dsimp only at *
      have hln := fun (W : World) (hW : Below w.heap.size wr W) => rline_any kind nm to_ tx n keep K ck W (by omega) (by omega) (by omega) (by omega) ((hK.below hW).more (by have := hW.size; omega))
      obtain ⟨L, hL⟩ : ∃ L, L = rlineB ⟨kind, nm, to_, tx, n, keep⟩ := ⟨_, rfl⟩
      rw [← hL] at hln hR2
      cases L with
      | none =>
        have HLn := hide (show ∀ (W : World), Below w.heap.size wr W → Calls Tryz.prog 21 #[.agg #[.int .u8 (kind : Nat), .string nm, .string to_, .string tx, .int .i64 n, .slice K keep.length ck]] W fun e w' => e = .returned (.tuple #[.string ⟨#[]⟩, .bool false]) ∧ Below W.heap.size W w' from hln)
        have HR2 := hide hR2
        clear hln hR2 hL hll hsm hdr hsk hR hK hol
        go_wp2_with (go_at_call 21; refine Calls.mono (HLn.out _ ((Below.refl _ _).alloc hz _)) ?_; rintro e w2 ⟨rfl, hb2⟩; have HB2 := hide hb2; clear hb2)
        refine bodyPost_ret (v := .tuple #[.string ⟨#[]⟩, .int .i64 2]) (by simp [results, Tryz.results10, go_sem]) rfl ?_
        exact ⟨by rw [HR2.out]; rfl, hbe.out.trans (((Below.refl _ _).alloc hz _).trans (HB2.out.mono (by simp; omega)))⟩
      | some t =>
        have HLn := hide (show ∀ (W : World), Below w.heap.size wr W → Calls Tryz.prog 21 #[.agg #[.int .u8 (kind : Nat), .string nm, .string to_, .string tx, .int .i64 n, .slice K keep.length ck]] W fun e w' => e = .returned (.tuple #[.string (blB t), .bool true]) ∧ Below W.heap.size W w' from hln)
        have ht : t.length ≤ 20000000 := by
          unfold rlineB at hL
          split at hL
          · rename_i hf
            simp only [Bool.and_eq_true] at hf
            cases hL
            exact hll hf.2
          · cases hL
        have zt : (blB t).size ≤ 20000000 := by rw [← bl_size, bl_blB]; exact ht
        have zo : (blB o).size ≤ 100000000000000 := by rw [← bl_size, bl_blB]; omega
        have y1 : ¬ 9223372036854775807 < (blB t).size + 1 := by omega
        have y2 : ¬ 9223372036854775807 < (blB o).size + ((blB t).size + 1) := by omega
        have HR2 := hide hR2
        clear hln hR2 hL hll hsm hdr hsk hR hK zt zo
        go_wp2_with (go_at_call 21; refine Calls.mono (HLn.out _ ((Below.refl _ _).alloc hz _)) ?_; rintro e w2 ⟨rfl, hb2⟩; have HB2 := hide hb2; clear hb2)
        exact ⟨⟨k + 1, o ++ (t ++ [10]), by rw [← blB_app, ← blB_app]; rfl, by simp, by omega, HR2, hide (hbe.out.trans (((Below.refl _ _).alloc hz _).trans (HB2.out.mono (by simp; omega)))), by simp; omega⟩, by simp [intOf]; omega⟩
    · obtain rfl : k = l.length := by omega
      have hRe : R = some o := by rw [hR.out, List.drop_of_length_le (by omega)]; rfl
      have HRe := hide hRe
      obtain ⟨O, hO⟩ : ∃ O, O = blB o := ⟨_, rfl⟩
      have HO := hide hO
      clear hRe hR hol
      go_wp2_with fail
      refine bodyPost_ret (v := .tuple #[.string (blB o), .int .i64 0]) (by simp [results, Tryz.results10, go_sem]) rfl ?_
      exact ⟨by rw [HRe.out]; rfl, hbe.out⟩
end Go.Proofs.YtahnnebpadbopaaGreatDoor
/- Walks: wringerref32.texts, number. -/
namespace Go.Proofs.YtahnnebpadbopaaGreatDoor
open Go.RowKit

def uq (s : List UInt8) : List UInt8 × List UInt8 := (runquoteB s).getD ([], [])
theorem uq_len (s : List UInt8) : (uq s).1.length ≤ s.length ∧ (uq s).2.length ≤ s.length := by
  unfold uq
  cases h : runquoteB s with
  | none => exact ⟨Nat.zero_le _, Nat.zero_le _⟩
  | some u =>
    obtain ⟨t, rest⟩ := u
    have := runquote_some h
    have ht := quote_len t
    rw [this, List.length_append]
    unfold quoteB
    rw [List.length_cons, List.length_append]
    dsimp only [Option.getD_some]
    omega
theorem runq3 (s : ByteArray) (w : World) (hs : s.size ≤ 100000000) : Calls Tryz.prog 14 #[.string s] w fun e w' => (∃ z : Int, e = .returned (.tuple #[.string (blB (uq (bl s)).1), .string (blB (uq (bl s)).2), .int .i64 z])) ∧ Below w.heap.size w w' := by
  refine Calls.mono (runquote_any s w hs) ?_
  rintro e w' ⟨rfl, hb⟩
  refine ⟨?_, hb⟩
  unfold uq
  cases runquoteB (bl s) with
  | none => exact ⟨7, rfl⟩
  | some u => exact ⟨0, rfl⟩
set_option maxRecDepth 100000 in
set_option maxHeartbeats 4000000 in
theorem texts_any (s : ByteArray) (w : World) (hs : s.size ≤ 100000000) : Calls Tryz.prog 38 #[.string s] w fun e w' => e = .returned (.tuple #[.string (blB (textsB (bl s)).1), .string (blB (textsB (bl s)).2)]) ∧ Below w.heap.size w w' := by
  have r1 := fun W => runq3 s W hs
  obtain ⟨a, ha⟩ : ∃ a, a = (uq (bl s)).1 := ⟨_, rfl⟩
  obtain ⟨b, hb⟩ : ∃ b, b = (uq (bl s)).2 := ⟨_, rfl⟩
  have hlb : b.length ≤ 100000000 := by have := (uq_len (bl s)).2; rw [bl_size] at this; rw [hb]; omega
  rw [← ha, ← hb] at r1
  have b1 := fun W => begins_any (blB b) ⟨#[32]⟩ W
  rw [show bl (blB b) = b from rfl, show bl ⟨#[32]⟩ = [32] from rfl] at b1
  have ht : textsB (bl s) = match begB b [32] with
    | none => (a, [])
    | some r => (a, (uq r).1) := by unfold textsB; rw [ha, hb]; rfl
  rw [ht]
  have R1 := hide r1
  clear ht r1 ha hb
  cases hg : begB b [32] with
  | none =>
    rw [hg] at b1
    have B1 := hide (show ∀ W, Calls Tryz.prog 37 #[.string (blB b), .string ⟨#[32]⟩] W fun e w' => e = .returned (.tuple #[.string ⟨#[]⟩, .bool false]) ∧ w' = W from b1)
    clear b1 hg
    go_enter Tryz.func38, Tryz.ntmps38
    go_wp2_with (first | (go_at_call 14; refine Calls.mono (R1.out _) ?_; rintro e w1 ⟨⟨z, rfl⟩, hb1⟩; have HB1 := hide hb1; clear hb1) | (go_at_call 37; refine Calls.mono (B1.out _) ?_; rintro e w2 ⟨rfl, rfl⟩))
    refine bodyPost_ret (v := .tuple #[.string (blB a), .string ⟨#[]⟩]) (by simp [results, Tryz.results38, go_sem]) rfl ?_
    exact ⟨rfl, HB1.out⟩
  | some r =>
    have hlr : (blB r).size ≤ 100000000 := by
      rw [← bl_size, bl_blB]
      unfold begB at hg
      split at hg
      · cases hg; rw [List.length_drop]; omega
      · cases hg
    rw [hg] at b1
    have B1 := hide (show ∀ W, Calls Tryz.prog 37 #[.string (blB b), .string ⟨#[32]⟩] W fun e w' => e = .returned (.tuple #[.string (blB r), .bool true]) ∧ w' = W from b1)
    have R2 := hide (show ∀ W, Calls Tryz.prog 14 #[.string (blB r)] W fun e w' => (∃ z : Int, e = .returned (.tuple #[.string (blB (uq r).1), .string (blB (uq r).2), .int .i64 z])) ∧ Below W.heap.size W w' from fun W => runq3 (blB r) W hlr)
    clear b1 hg hlr
    go_enter Tryz.func38, Tryz.ntmps38
    go_wp2_with (first | (have hx1 := HB1; clear hx1; go_at_call 14; refine Calls.mono (R2.out _) ?_; rintro e w3 ⟨⟨z3, rfl⟩, hb3⟩; have HB3 := hide hb3; clear hb3) | (go_at_call 14; refine Calls.mono (R1.out _) ?_; rintro e w1 ⟨⟨z, rfl⟩, hb1⟩; have HB1 := hide hb1; clear hb1) | (go_at_call 37; refine Calls.mono (B1.out _) ?_; rintro e w2 ⟨rfl, rfl⟩))
    refine bodyPost_ret (v := .tuple #[.string (blB a), .string (blB (uq r).1)]) (by simp [results, Tryz.results38, go_sem]) rfl ?_
    exact ⟨rfl, btrans HB1.out HB3.out⟩
theorem numF_step {f : Nat} {l : List UInt8} {k n : Nat} {c : UInt8} (h : l[k]? = some c) : numF (f + 1) (l.drop k) n = numF f (l.drop (k + 1)) (10 * n + digV c % 10) := by
  have hk : k < l.length := (List.getElem?_eq_some_iff.1 h).1
  rw [List.drop_eq_getElem_cons hk]
  rw [List.getElem?_eq_getElem hk] at h
  rw [Option.some.inj h]
  rfl
theorem numF_end {f : Nat} {l : List UInt8} {n : Nat} (h : f = 0 ∨ l = []) : numF f l n = n := by
  rcases h with rfl | rfl
  · rfl
  · cases f <;> rfl
theorem ten_pow {k n d : Nat} (h : n < 10 ^ k) (hd : d < 10) : 10 * n + d < 10 ^ (k + 1) := by rw [Nat.pow_succ]; omega
set_option maxRecDepth 100000 in
set_option maxHeartbeats 4000000 in
theorem number_any (s : ByteArray) (w : World) (hs : s.size ≤ 100000000) : Calls Tryz.prog 39 #[.string s] w fun e w' => e = .returned (.int .i64 (numberB (bl s))) ∧ w' = w := by
  have hem := isEmpty_str s
  by_cases h0 : s.size = 0
  · have he : s.toList.isEmpty = true := by rw [hem, h0]; rfl
    have hb : bl s = [] := List.eq_nil_of_length_eq_zero (by rw [bl_size, h0])
    have hnb : numberB (bl s) = ((numF 12 (bl s) 0 : Nat) : Int) := by rw [hb]; rfl
    rw [hnb]
    obtain ⟨V, hV⟩ : ∃ V, V = numF 12 (bl s) 0 := ⟨_, rfl⟩
    rw [← hV]
    have HV := hide (show V = numF (12 - 0) ((bl s).drop 0) 0 from hV)
    clear hem hnb hV hb
    go_enter Tryz.func39, Tryz.ntmps39
    go_wp2_with fail
    go_loopw [3, 5] (fun nv iv wr => ∃ k n : Nat, nv = .int .i64 n ∧ iv = .int .i64 k ∧ k ≤ 12 ∧ k ≤ s.size ∧ 0 ≤ k ∧ wr = w ∧ Hid (V = numF (12 - k) ((bl s).drop k) n) ∧ Hid (n < 10 ^ k)) (fun _ iv _ => 12 - (intOf iv).toNat)
    case atStart => exact ⟨0, 0, rfl, rfl, by omega, by omega, by omega, rfl, HV, hide (by decide)⟩
    case round =>
      clear HV
      obtain ⟨k, n, rfl, rfl, hk, hks, hfr, rfl, hinv, hn⟩ := hrel
      have hn12 : (n : Int) ≤ 999999999999 := by
        have h1 := hn.out
        have h2 : 10 ^ k ≤ 10 ^ 12 := Nat.pow_le_pow_right (by decide) hk
        have h3 : (10 : Nat) ^ 12 = 1000000000000 := by decide
        omega
      by_cases hlt : k < s.size
      · by_cases hk12 : (k : Int) < 12
        · obtain ⟨c, hc⟩ : ∃ c, c = s[k]'hlt := ⟨_, rfl⟩
          have q0 : (s[k]'hlt).toNat = c.toNat := by rw [hc]
          have hck : (bl s)[k]? = some c := by rw [hc]; exact bl_at s k hlt
          have hd9 : digV c ≤ 16 := digV_le c
          obtain ⟨d, hd⟩ : ∃ d, d = digV c % 10 := ⟨_, rfl⟩
          have hdT : ((digV c : Nat) : Int).tmod 10 = (d : Int) := by rw [Int.tmod_eq_emod_of_nonneg (by omega)]; omega
          have hd10 : d < 10 := by omega
          have hinv2 : V = numF (12 - (k + 1)) ((bl s).drop (k + 1)) (10 * n + d) := by
            rw [hinv.out, show 12 - k = (12 - (k + 1)) + 1 by omega, numF_step hck, hd]
          have HI2 := hide hinv2
          have HN2 := hide (ten_pow hn.out hd10)
          clear hc hck hinv2 hd hinv hn
          go_wp2_with (go_at_call 29; refine Calls.mono (digit_any _ _) ?_; rintro e w2 ⟨rfl, rfl⟩)
          all_goals exact ⟨⟨k + 1, 10 * n + d, by simp, by simp, by omega, by omega, by omega, trivial, HI2, HN2⟩, by simp [intOf]; omega⟩
        · have hVn : V = n := by rw [hinv.out]; exact numF_end (.inl (by omega))
          have HVn := hide hVn
          clear hVn hinv hn
          go_wp2_with fail
          all_goals go_ret
          all_goals exact ⟨by rw [HVn.out]; rfl, rfl⟩
      · have hVn : V = n := by rw [hinv.out]; exact numF_end (.inr (by rw [List.drop_of_length_le]; rw [bl_size]; omega))
        have HVn := hide hVn
        have hks2 : ¬ (k : Int) < (s.size : Int) := by omega
        clear hVn hinv hn
        go_wp2_with fail
        all_goals go_ret
        all_goals exact ⟨by rw [HVn.out]; rfl, rfl⟩
  · have he : s.toList.isEmpty = false := by rw [hem]; exact decide_eq_false h0
    have hp : 0 < s.size := by omega
    obtain ⟨c, hc⟩ : ∃ c, c = s[0]'hp := ⟨_, rfl⟩
    have q0 : (s[0]'hp).toNat = c.toNat := by rw [hc]
    have hhd : (bl s).head? = some c := by rw [List.head?_eq_getElem?, bl_at s 0 hp, hc]
    clear hc hem
    by_cases h45 : c = 45
    · have e0 : ((c.toNat : Int) == 45) = true := by rw [h45]; rfl
      have hnb : numberB (bl s) = -((numF 11 ((bl s).drop 1) 0 : Nat) : Int) := by unfold numberB; rw [if_pos (by rw [hhd, h45])]
      rw [hnb]
      obtain ⟨V, hV⟩ : ∃ V, V = numF 11 ((bl s).drop 1) 0 := ⟨_, rfl⟩
      rw [← hV]
      have HV := hide (show V = numF (12 - 1) ((bl s).drop 1) 0 from hV)
      clear hhd hnb hV h45
      go_enter Tryz.func39, Tryz.ntmps39
      go_wp2_with fail
      go_loopw [3, 5] (fun nv iv wr => ∃ k n : Nat, nv = .int .i64 n ∧ iv = .int .i64 k ∧ k ≤ 12 ∧ k ≤ s.size ∧ 1 ≤ k ∧ wr = w ∧ Hid (V = numF (12 - k) ((bl s).drop k) n) ∧ Hid (n < 10 ^ k)) (fun _ iv _ => 12 - (intOf iv).toNat)
      case atStart => exact ⟨1, 0, rfl, rfl, by omega, by omega, by omega, rfl, HV, hide (by decide)⟩
      case round =>
        clear HV
        obtain ⟨k, n, rfl, rfl, hk, hks, hfr, rfl, hinv, hn⟩ := hrel
        have hn12 : (n : Int) ≤ 999999999999 := by
          have h1 := hn.out
          have h2 : 10 ^ k ≤ 10 ^ 12 := Nat.pow_le_pow_right (by decide) hk
          have h3 : (10 : Nat) ^ 12 = 1000000000000 := by decide
          omega
        by_cases hlt : k < s.size
        · by_cases hk12 : (k : Int) < 12
          · obtain ⟨c, hc⟩ : ∃ c, c = s[k]'hlt := ⟨_, rfl⟩
            have q0 : (s[k]'hlt).toNat = c.toNat := by rw [hc]
            have hck : (bl s)[k]? = some c := by rw [hc]; exact bl_at s k hlt
            have hd9 : digV c ≤ 16 := digV_le c
            obtain ⟨d, hd⟩ : ∃ d, d = digV c % 10 := ⟨_, rfl⟩
            have hdT : ((digV c : Nat) : Int).tmod 10 = (d : Int) := by rw [Int.tmod_eq_emod_of_nonneg (by omega)]; omega
            have hd10 : d < 10 := by omega
            have hinv2 : V = numF (12 - (k + 1)) ((bl s).drop (k + 1)) (10 * n + d) := by
              rw [hinv.out, show 12 - k = (12 - (k + 1)) + 1 by omega, numF_step hck, hd]
            have HI2 := hide hinv2
            have HN2 := hide (ten_pow hn.out hd10)
            clear hc hck hinv2 hd hinv hn
            go_wp2_with (go_at_call 29; refine Calls.mono (digit_any _ _) ?_; rintro e w2 ⟨rfl, rfl⟩)
            exact ⟨⟨k + 1, 10 * n + d, by simp, by simp, by omega, by omega, by omega, trivial, HI2, HN2⟩, by simp [intOf]; omega⟩
          · have hVn : V = n := by rw [hinv.out]; exact numF_end (.inl (by omega))
            have HVn := hide hVn
            clear hVn hinv hn
            go_wp2_with fail
            all_goals go_ret
            all_goals exact ⟨by rw [HVn.out]; rfl, rfl⟩
        · have hVn : V = n := by rw [hinv.out]; exact numF_end (.inr (by rw [List.drop_of_length_le]; rw [bl_size]; omega))
          have HVn := hide hVn
          have hks2 : ¬ (k : Int) < (s.size : Int) := by omega
          clear hVn hinv hn
          go_wp2_with fail
          all_goals go_ret
          all_goals exact ⟨by rw [HVn.out]; rfl, rfl⟩
    · have e0 : ((c.toNat : Int) == 45) = false := byte_ne 45 h45
      have hnb : numberB (bl s) = ((numF 12 (bl s) 0 : Nat) : Int) := by unfold numberB; rw [if_neg (by rw [hhd]; simpa using h45)]
      rw [hnb]
      obtain ⟨V, hV⟩ : ∃ V, V = numF 12 (bl s) 0 := ⟨_, rfl⟩
      rw [← hV]
      have HV := hide (show V = numF (12 - 0) ((bl s).drop 0) 0 from hV)
      clear hhd hnb hV h45
      go_enter Tryz.func39, Tryz.ntmps39
      go_wp2_with fail
      go_loopw [3, 5] (fun nv iv wr => ∃ k n : Nat, nv = .int .i64 n ∧ iv = .int .i64 k ∧ k ≤ 12 ∧ k ≤ s.size ∧ 0 ≤ k ∧ wr = w ∧ Hid (V = numF (12 - k) ((bl s).drop k) n) ∧ Hid (n < 10 ^ k)) (fun _ iv _ => 12 - (intOf iv).toNat)
      case atStart => exact ⟨0, 0, rfl, rfl, by omega, by omega, by omega, rfl, HV, hide (by decide)⟩
      case round =>
        clear HV
        obtain ⟨k, n, rfl, rfl, hk, hks, hfr, rfl, hinv, hn⟩ := hrel
        have hn12 : (n : Int) ≤ 999999999999 := by
          have h1 := hn.out
          have h2 : 10 ^ k ≤ 10 ^ 12 := Nat.pow_le_pow_right (by decide) hk
          have h3 : (10 : Nat) ^ 12 = 1000000000000 := by decide
          omega
        by_cases hlt : k < s.size
        · by_cases hk12 : (k : Int) < 12
          · obtain ⟨c, hc⟩ : ∃ c, c = s[k]'hlt := ⟨_, rfl⟩
            have q0 : (s[k]'hlt).toNat = c.toNat := by rw [hc]
            have hck : (bl s)[k]? = some c := by rw [hc]; exact bl_at s k hlt
            have hd9 : digV c ≤ 16 := digV_le c
            obtain ⟨d, hd⟩ : ∃ d, d = digV c % 10 := ⟨_, rfl⟩
            have hdT : ((digV c : Nat) : Int).tmod 10 = (d : Int) := by rw [Int.tmod_eq_emod_of_nonneg (by omega)]; omega
            have hd10 : d < 10 := by omega
            have hinv2 : V = numF (12 - (k + 1)) ((bl s).drop (k + 1)) (10 * n + d) := by
              rw [hinv.out, show 12 - k = (12 - (k + 1)) + 1 by omega, numF_step hck, hd]
            have HI2 := hide hinv2
            have HN2 := hide (ten_pow hn.out hd10)
            clear hc hck hinv2 hd hinv hn
            go_wp2_with (go_at_call 29; refine Calls.mono (digit_any _ _) ?_; rintro e w2 ⟨rfl, rfl⟩)
            exact ⟨⟨k + 1, 10 * n + d, by simp, by simp, by omega, by omega, by omega, trivial, HI2, HN2⟩, by simp [intOf]; omega⟩
          · have hVn : V = n := by rw [hinv.out]; exact numF_end (.inl (by omega))
            have HVn := hide hVn
            clear hVn hinv hn
            go_wp2_with fail
            all_goals go_ret
            all_goals exact ⟨by rw [HVn.out]; rfl, rfl⟩
        · have hVn : V = n := by rw [hinv.out]; exact numF_end (.inr (by rw [List.drop_of_length_le]; rw [bl_size]; omega))
          have HVn := hide hVn
          have hks2 : ¬ (k : Int) < (s.size : Int) := by omega
          clear hVn hinv hn
          go_wp2_with fail
          all_goals go_ret
          all_goals exact ⟨by rw [HVn.out]; rfl, rfl⟩
end Go.Proofs.YtahnnebpadbopaaGreatDoor
/- Walk: wringerref32.SameStep (printed by gen_frk.py). -/
namespace Go.Proofs.YtahnnebpadbopaaGreatDoor
open Go.RowKit

theorem list_eq_of {α : Type} {l m : List α} (h : l.length = m.length) (hk : ∀ j, j < l.length → l[j]? = m[j]?) : l = m := by
  apply List.ext_getElem? 
  intro j
  by_cases hj : j < l.length
  · exact hk j hj
  · rw [List.getElem?_eq_none (by omega), List.getElem?_eq_none (by omega)]
set_option maxRecDepth 100000 in
set_option maxHeartbeats 8000000 in
theorem samestep_any (k k' : Nat) (nm nm' to_ to' tx tx' : ByteArray) (n n' : Int) (l l' : List Bool) (A A' : Option Addr) (c c' : Nat) (w : World) (hl : l.length ≤ 1000000000) (hA : Rd w w.heap.size A (l.map .bool)) (hA' : Rd w w.heap.size A' (l'.map .bool)) :
    Calls Tryz.prog 17 #[.agg #[.int .u8 (k : Nat), .string nm, .string to_, .string tx, .int .i64 n, .slice A l.length c], .agg #[.int .u8 (k' : Nat), .string nm', .string to', .string tx', .int .i64 n', .slice A' l'.length c']] w fun e w' => e = .returned (.bool (decide ((⟨k, nm, to_, tx, n, l⟩ : Stp) = ⟨k', nm', to', tx', n', l'⟩))) ∧ Below w.heap.size w w' := by
  by_cases hk : k = k'
  · have ehk : ((k : Int) != (k' : Int)) = false := by simp; omega
    by_cases hnm : nm = nm'
    · have ehnm : (nm.toList == nm'.toList) = true := by rw [toL_eq]; exact decide_eq_true hnm
      by_cases hto : to_ = to'
      · have ehto : (to_.toList == to'.toList) = true := by rw [toL_eq]; exact decide_eq_true hto
        by_cases htx : tx = tx'
        · have ehtx : (tx.toList == tx'.toList) = true := by rw [toL_eq]; exact decide_eq_true htx
          by_cases hn : n = n'
          · have ehn : (n != n') = false := by rw [hn]; simp
            by_cases hll : l.length = l'.length
            · have ehll : ((l.length : Int) != (l'.length : Int)) = false := by simp; omega
              have hb1 := (btrans (ba1 w (.cells #[.int .u8 (k : Nat), .string nm, .string to_, .string tx, .int .i64 n, .slice A l.length c] 39)) (ba1 _ (.cells #[.int .u8 (k' : Nat), .string nm', .string to', .string tx', .int .i64 n', .slice A' l'.length c'] 39)))
              obtain ⟨W0, hW0⟩ : ∃ W0, W0 = (w.alloc (.cells #[.int .u8 (k : Nat), .string nm, .string to_, .string tx, .int .i64 n, .slice A l.length c] 39)).alloc (.cells #[.int .u8 (k' : Nat), .string nm', .string to', .string tx', .int .i64 n', .slice A' l'.length c'] 39) := ⟨_, rfl⟩
              rw [← hW0] at hb1
              have HR := hide (hA.below hb1)
              have HR' := hide (hA'.below hb1)
              have HB1 := hide hb1
              have hst : ((⟨k, nm, to_, tx, n, l⟩ : Stp) = ⟨k', nm', to', tx', n', l'⟩) ↔ l = l' := by
                constructor
                · intro h; injection h
                · intro h; rw [hk, hnm, hto, htx, hn, h]
              obtain ⟨D, hD⟩ : ∃ D, D = decide ((⟨k, nm, to_, tx, n, l⟩ : Stp) = ⟨k', nm', to', tx', n', l'⟩) := ⟨_, rfl⟩
              rw [← hD]
              have hD2 : D = decide (l = l') := by rw [hD]; exact decide_eq_decide.2 hst
              have HD := hide hD2
              have HLL := hide hll
              clear hD hst hD2 hb1 hA hA' hk hnm hto htx hn hll
              go_enter Tryz.func17, Tryz.ntmps17
              go_wp2_with fail
              rw [← hW0]
              have KA : Bk W0 w.heap.size 39 #[.int .u8 (k : Nat), .string nm, .string to_, .string tx, .int .i64 n, .slice A l.length c] := by rw [hW0]; exact (Bk.new _ _ _).alloc _
              have KB : Bk W0 (w.heap.size + 1) 39 #[.int .u8 (k' : Nat), .string nm', .string to', .string tx', .int .i64 n', .slice A' l'.length c'] := by rw [hW0]; exact Bk.new1 _ _ _ _
              have HKA := hide KA
              have HKB := hide KB
              clear KA KB hW0 ehk ehnm ehto ehtx ehn ehll
              go_loopw [51, 5] (fun iv _ wr => ∃ j : Nat, iv = .int .i64 j ∧ j ≤ l.length ∧ Hid (∃ q, wr = W0.drewN q) ∧ Hid (∀ i, i < j → l[i]? = l'[i]?)) (fun iv _ _ => l.length - (intOf iv).toNat)
              case atStart => exact ⟨0, rfl, by omega, hide ⟨0, rfl⟩, hide (fun i hi => by omega)⟩
              case round =>
                obtain ⟨j, rfl, hj, hq, hinv⟩ := hrel
                obtain ⟨q, hwq⟩ := hq.out
                have HQ := hide hwq
                have ka : Bk wr w.heap.size 39 #[.int .u8 (k : Nat), .string nm, .string to_, .string tx, .int .i64 n, .slice A l.length c] := by rw [hwq]; exact HKA.out
                have kb : Bk wr (w.heap.size + 1) 39 #[.int .u8 (k' : Nat), .string nm', .string to', .string tx', .int .i64 n', .slice A' l'.length c'] := by rw [hwq]; exact HKB.out
                have ra : Rd wr w.heap.size A (l.map .bool) := by rw [hwq]; exact HR.out
                have rb : Rd wr w.heap.size A' (l'.map .bool) := by rw [hwq]; exact HR'.out
                have a5 : wr.cell? ⟨w.heap.size, 5, none⟩ = some (.slice A l.length c) := ka.cell 5
                have b5 : wr.cell? ⟨w.heap.size + 1, 5, none⟩ = some (.slice A' l'.length c') := kb.cell 5
                have la := ka.lt
                have lb := kb.lt
                clear hwq ka kb hq
                by_cases hlt : j < l.length
                · have hll := HLL.out
                  have hlt' : j < l'.length := by omega
                  obtain ⟨x, hx⟩ : ∃ x, l[j]? = some x := ⟨l[j], by simp [hlt]⟩
                  obtain ⟨x', hx'⟩ : ∃ x, l'[j]? = some x := ⟨l'[j], by simp [hlt']⟩
                  obtain ⟨b, o, rfl, hb, hc⟩ := ra j (.bool x) (by rw [List.getElem?_map, hx]; rfl)
                  obtain ⟨b', o', rfl, hb', hc'⟩ := rb j (.bool x') (by rw [List.getElem?_map, hx']; rfl)
                  have hbl : b < wr.heap.size := by omega
                  have hbl' : b' < wr.heap.size := by omega
                  have HX := hide hx
                  have HX' := hide hx'
                  clear hll hx hx' ra rb hb hb'
                  by_cases he : x = x'
                  · subst he
                    have hne : (x == x) = true := by simp
                    go_wp2_with fail
                    go_quiet (fail)
                    go_wp2_with fail
                    exact ⟨⟨j + 1, by simp, by omega, hide (by rw [HQ.out]; exact ⟨_, World.drewN_drewN _ _ _⟩), hide (fun i hi => by
                      rcases Nat.lt_or_ge i j with g | g
                      · exact hinv.out i g
                      · obtain rfl : i = j := by omega
                        rw [HX.out, HX'.out])⟩, by simp [intOf]; omega⟩
                  · have hne : (x == x') = false := by simpa using he
                    have hDf : D = false := by
                      rw [HD.out]
                      refine decide_eq_false fun e => he ?_
                      have h1 := HX.out
                      rw [e, HX'.out] at h1
                      exact (Option.some.inj h1).symm
                    have HDf := hide hDf
                    clear hDf he
                    go_wp2_with fail
                    go_quiet (fail)
                    go_wp2_with fail
                    go_ret
                    exact ⟨by rw [HDf.out]; rfl, by rw [HQ.out]; exact (HB1.out.trans (below_nq _ _)).trans (below_nq _ _)⟩
                · obtain rfl : j = l.length := by omega
                  have hDt : D = true := by rw [HD.out]; exact decide_eq_true (list_eq_of HLL.out hinv.out)
                  have HDt := hide hDt
                  clear hDt ra rb
                  go_wp2_with fail
                  go_ret
                  exact ⟨by rw [HDt.out]; rfl, by rw [HQ.out]; exact HB1.out.trans (below_nq _ _)⟩
            · have ehll : ((l.length : Int) != (l'.length : Int)) = true := by simp; omega
              rw [decide_eq_false (show ¬ ((⟨k, nm, to_, tx, n, l⟩ : Stp) = ⟨k', nm', to', tx', n', l'⟩) from fun h => hll (by injection h with _ _ _ _ _ e; rw [e]))]
              clear hk hnm hto htx hn hll
              go_enter Tryz.func17, Tryz.ntmps17
              go_wp2_with fail
              all_goals go_ret
              all_goals exact ⟨rfl, by first | exact btrans (ba1 _ _) (ba1 _ _) | exact btrans (btrans (ba1 _ _) (ba1 _ _)) (below_nq _ _)⟩
          · have ehn : (n != n') = true := by simpa using hn
            rw [decide_eq_false (show ¬ ((⟨k, nm, to_, tx, n, l⟩ : Stp) = ⟨k', nm', to', tx', n', l'⟩) from fun h => hn (by injection h))]
            clear hk hnm hto htx hn
            go_enter Tryz.func17, Tryz.ntmps17
            go_wp2_with fail
            all_goals go_ret
            all_goals exact ⟨rfl, by first | exact btrans (ba1 _ _) (ba1 _ _) | exact btrans (btrans (ba1 _ _) (ba1 _ _)) (below_nq _ _)⟩
        · have ehtx : (tx.toList == tx'.toList) = false := by rw [toL_eq]; exact decide_eq_false htx
          rw [decide_eq_false (show ¬ ((⟨k, nm, to_, tx, n, l⟩ : Stp) = ⟨k', nm', to', tx', n', l'⟩) from fun h => htx (by injection h))]
          clear hk hnm hto htx
          go_enter Tryz.func17, Tryz.ntmps17
          go_wp2_with fail
          all_goals go_ret
          all_goals exact ⟨rfl, by first | exact btrans (ba1 _ _) (ba1 _ _) | exact btrans (btrans (ba1 _ _) (ba1 _ _)) (below_nq _ _)⟩
      · have ehto : (to_.toList == to'.toList) = false := by rw [toL_eq]; exact decide_eq_false hto
        rw [decide_eq_false (show ¬ ((⟨k, nm, to_, tx, n, l⟩ : Stp) = ⟨k', nm', to', tx', n', l'⟩) from fun h => hto (by injection h))]
        clear hk hnm hto
        go_enter Tryz.func17, Tryz.ntmps17
        go_wp2_with fail
        all_goals go_ret
        all_goals exact ⟨rfl, by first | exact btrans (ba1 _ _) (ba1 _ _) | exact btrans (btrans (ba1 _ _) (ba1 _ _)) (below_nq _ _)⟩
    · have ehnm : (nm.toList == nm'.toList) = false := by rw [toL_eq]; exact decide_eq_false hnm
      rw [decide_eq_false (show ¬ ((⟨k, nm, to_, tx, n, l⟩ : Stp) = ⟨k', nm', to', tx', n', l'⟩) from fun h => hnm (by injection h))]
      clear hk hnm
      go_enter Tryz.func17, Tryz.ntmps17
      go_wp2_with fail
      all_goals go_ret
      all_goals exact ⟨rfl, by first | exact btrans (ba1 _ _) (ba1 _ _) | exact btrans (btrans (ba1 _ _) (ba1 _ _)) (below_nq _ _)⟩
  · have ehk : ((k : Int) != (k' : Int)) = true := by simp; omega
    rw [decide_eq_false (show ¬ ((⟨k, nm, to_, tx, n, l⟩ : Stp) = ⟨k', nm', to', tx', n', l'⟩) from fun h => hk (by injection h))]
    clear hk
    go_enter Tryz.func17, Tryz.ntmps17
    go_wp2_with fail
    all_goals go_ret
    all_goals exact ⟨rfl, by first | exact btrans (ba1 _ _) (ba1 _ _) | exact btrans (btrans (ba1 _ _) (ba1 _ _)) (below_nq _ _)⟩
end Go.Proofs.YtahnnebpadbopaaGreatDoor
/- Walk: wringerref32.Same. -/
namespace Go.Proofs.YtahnnebpadbopaaGreatDoor
open Go.RowKit Go.Sort

set_option maxRecDepth 100000 in
set_option maxHeartbeats 8000000 in
theorem same_any (l l' : List Stp) (A A' : Option Addr) (c c' : Nat) (w : World) (hl : l.length ≤ 1000000000) (hk : ∀ s ∈ l, s.keep.length ≤ 1000000000) (hA : StsR w w.heap.size A l) (hA' : StsR w w.heap.size A' l') :
    Calls Tryz.prog 12 #[.slice A l.length c, .slice A' l'.length c'] w fun e w' => e = .returned (.bool (decide (l = l'))) ∧ Below w.heap.size w w' := by
  by_cases hll : l.length = l'.length
  · have ehll : ((l.length : Int) != (l'.length : Int)) = false := by simp; omega
    obtain ⟨D, hD⟩ : ∃ D, D = decide (l = l') := ⟨_, rfl⟩
    rw [← hD]
    have HD := hide hD
    have HLL := hide hll
    have HA := hide hA
    have HA' := hide hA'
    have HK := hide hk
    clear hD hA hA' hk hll
    go_enter Tryz.func12, Tryz.ntmps12
    go_wp2_with fail
    clear ehll
    go_loopw [13, 5] (fun iv _ wr => ∃ j : Nat, iv = .int .i64 j ∧ j ≤ l.length ∧ Hid (Below w.heap.size w wr) ∧ Hid (∀ i, i < j → l[i]? = l'[i]?)) (fun iv _ _ => l.length - (intOf iv).toNat)
    case atStart => exact ⟨0, rfl, by omega, hide (Below.refl _ _), hide (fun i hi => by omega)⟩
    case round =>
      obtain ⟨j, rfl, hj, hbe, hinv⟩ := hrel
      by_cases hlt : j < l.length
      · have hll := HLL.out
        have hlt' : j < l'.length := by omega
        obtain ⟨x, hx⟩ : ∃ x, l[j]? = some x := ⟨l[j], by simp [hlt]⟩
        obtain ⟨x', hx'⟩ : ∃ x, l'[j]? = some x := ⟨l'[j], by simp [hlt']⟩
        obtain ⟨b, o, kv, rfl, hb, ⟨K, ck, rfl, hK⟩, c0, c1, c2, c3, c4, c5⟩ := stp_cells (HA.out.below hbe.out) hx
        obtain ⟨b', o', kv', rfl, hb', ⟨K', ck', rfl, hK'⟩, d0, d1, d2, d3, d4, d5⟩ := stp_cells (HA'.out.below hbe.out) hx'
        have hkx := HK.out x (List.mem_of_getElem? hx)
        obtain ⟨k, nm, to_, tx, n, kp⟩ := x
        obtain ⟨k', nm', to', tx', n', kp'⟩ := x'
        dsimp only at hK hK' c0 c1 c2 c3 c4 c5 d0 d1 d2 d3 d4 d5 hkx
        obtain ⟨q, hq⟩ : ∃ q, q = decide ((⟨k, nm, to_, tx, n, kp⟩ : Stp) = ⟨k', nm', to', tx', n', kp'⟩) := ⟨_, rfl⟩
        have hz := hbe.out.size
        have hss := fun (d : Nat) (os : Array Obj) => samestep_any k k' nm nm' to_ to' tx tx' n n' kp kp' K K' ck ck' (grow (redrawn wr d) os) hkx ((hK.below ((below_regrown wr d os).mono hz)).more (by have := (below_regrown wr d os).size; omega)) ((hK'.below ((below_regrown wr d os).mono hz)).more (by have := (below_regrown wr d os).size; omega))
        rw [← hq] at hss
        have cf := fun d os => Calls.regrown_of (w := wr) (d := d) (os := os) (hss d os)
        have CF := hide cf
        have hmx : Tryz.prog.follows .mixedOrders = true := by kernel_rfl
        have m0 := cell_regrown c0
        have m1 := cell_regrown c1
        have m2 := cell_regrown c2
        have m3 := cell_regrown c3
        have m4 := cell_regrown c4
        have m5 := cell_regrown c5
        have n0 := cell_regrown d0
        have n1 := cell_regrown d1
        have n2 := cell_regrown d2
        have n3 := cell_regrown d3
        have n4 := cell_regrown d4
        have n5 := cell_regrown d5
        have HX := hide hx
        have HX' := hide hx'
        have HQ := hide hq
        clear hll hx hx' hb hb' hK hK' hss cf hq c0 c1 c2 c3 c4 c5 d0 d1 d2 d3 d4 d5
        go_wp2_with fail
        refine wp_region_quiet_below hmx (by kernel_rfl) ?_
        repeat (quiet_step (with_reducible exact CF.out _ _))
        refine wpQuiet_nil ?_
        intro _ hw'
        obtain ⟨⟨dq, osq⟩, hw''⟩ := hw'
        subst hw''
        dsimp only
        have HB4 : Hid (Below w.heap.size w (grow (redrawn wr dq) osq)) := hide (hbe.out.trans ((below_regrown wr dq osq).mono hz))
        obtain ⟨w5, hw5⟩ : ∃ W, W = grow (redrawn wr dq) osq := ⟨_, rfl⟩
        rw [← hw5] at HB4 ⊢
        clear CF m0 m1 m2 m3 m4 m5 n0 n1 n2 n3 n4 n5 hw5
        cases q with
        | true =>
          have heq := of_decide_eq_true HQ.out.symm
          have HE := hide heq
          clear heq HQ
          go_wp2_with fail
          exact ⟨⟨j + 1, by simp, by omega, HB4, hide (fun i hi => by
            rcases Nat.lt_or_ge i j with g | g
            · exact hinv.out i g
            · obtain rfl : i = j := by omega
              rw [HX.out, HX'.out, HE.out])⟩, by simp [intOf]; omega⟩
        | false =>
          have hDf : D = false := by
            rw [HD.out]
            refine decide_eq_false fun e => of_decide_eq_false HQ.out.symm ?_
            have h1 := HX.out
            rw [e, HX'.out] at h1
            exact (Option.some.inj h1).symm
          have HDf := hide hDf
          clear hDf HQ
          go_wp2_with fail
          go_ret
          exact ⟨by rw [HDf.out]; rfl, HB4.out⟩
      · obtain rfl : j = l.length := by omega
        have hDt : D = true := by rw [HD.out]; exact decide_eq_true (list_eq_of HLL.out hinv.out)
        have HDt := hide hDt
        clear hDt
        go_wp2_with fail
        go_ret
        exact ⟨by rw [HDt.out]; rfl, hbe.out⟩
  · have ehll : ((l.length : Int) != (l'.length : Int)) = true := by simp; omega
    rw [decide_eq_false (show ¬ l = l' from fun e => hll (by rw [e]))]
    clear hll hA hA' hk
    go_enter Tryz.func12, Tryz.ntmps12
    go_wp2_with fail
    all_goals go_ret
    exact ⟨rfl, Below.refl _ _⟩
end Go.Proofs.YtahnnebpadbopaaGreatDoor
/- Walks: front.verb, front.kept. -/
namespace Go.Proofs.YtahnnebpadbopaaGreatDoor
open Go.RowKit

/-- The table of verbs, as it is laid. -/
def VerbT (w : World) : Prop := ∀ k, k < 11 → w.cell? ⟨1, k, none⟩ = some (.string (blB (verbB k)))
theorem VerbT.below {B : Nat} {w w' : World} (h : VerbT w) (hb : Below B w w') (hB : 1 < B) : VerbT w' := fun k hk => (hb.cell (p := ⟨1, k, none⟩) hB).trans (h k hk)
theorem verb_any (k : Nat) (w : World) (hk : k < 11) (hV : VerbT w) : Calls Tryz.prog 45 #[.int .u8 (k : Nat)] w fun e w' => e = .returned (.string (blB (verbB k))) ∧ w' = w := by
  have hc := hV k hk
  have hki : (k : Int) < 11 := by omega
  obtain ⟨V, hVV⟩ : ∃ V, V = blB (verbB k) := ⟨_, rfl⟩
  rw [← hVV] at hc ⊢
  clear hVV hV
  go_enter Tryz.func45, Tryz.ntmps45
  go_wp2_with fail
  go_ret
  exact ⟨rfl, rfl⟩
set_option maxRecDepth 100000 in
set_option maxHeartbeats 4000000 in
theorem kept_any (l : List Bool) (A : Option Addr) (c : Nat) (w : World) (hA : Rd w w.heap.size A (l.map .bool)) (hl : l.length ≤ 100000000) : Calls Tryz.prog 47 #[.slice A l.length c] w fun e w' => e = .returned (.string (blB (keptB l))) ∧ Below w.heap.size w w' := by
  have HA := hide hA
  have hnew := Bd.new w
  have HNew := hide (show Bd (w.alloc (.cells #[.pointer none, .slice none 0 0] 58)) w.heap.size (nats (keptB (l.take 0))) from by rw [List.take_zero]; exact hnew)
  clear hA hnew
  go_enter Tryz.func47, Tryz.ntmps47
  go_wp2_with fail
  go_loopw [8] (fun iv wr => ∃ k : Nat, iv = .int .i64 k ∧ k ≤ l.length ∧ Hid (Bd wr w.heap.size (nats (keptB (l.take k)))) ∧ Hid (Below w.heap.size w wr)) (fun iv _ => l.length - (intOf iv).toNat)
  case atStart => exact ⟨0, rfl, by omega, HNew, hide (ba1 _ _)⟩
  case round =>
    clear HNew
    obtain ⟨k, rfl, hk, HB, HF⟩ := hrel
    have hlq : (nats (keptB (l.take k))).length ≤ 900000000 := by
      rw [nats_length]
      unfold keptB
      rw [List.length_map, List.length_take]
      omega
    by_cases hlt : k < l.length
    · obtain ⟨x, hx⟩ : ∃ x, l[k]? = some x := ⟨l[k], by simp [hlt]⟩
      obtain ⟨b, o, rfl, hb, hc⟩ := HA.out k (.bool x) (by rw [List.getElem?_map, hx]; rfl)
      have hc1 := (HF.out.cell (p := ⟨b, o + k, none⟩) hb).trans hc
      have hbl := Nat.lt_of_lt_of_le hb HF.out.size
      have hts : keptB (l.take (k + 1)) = keptB (l.take k) ++ [if x then 49 else 48] := by
        rw [List.take_add_one, hx]
        unfold keptB
        rw [List.map_append]
        rfl
      have HTs := hide hts
      clear hc hx hts hb
      cases x with
      | true =>
        go_wp2_with (go_at_call 30; refine Calls.mono (bwByte _ _ _ _ HB.out (by omega)) ?_; rintro e w2 ⟨rfl, hb, hf⟩; replace HF := hide (HF.out.trans hf); replace HB := hide hb; clear hb hf)
        exact ⟨⟨k + 1, by simp, by omega, hide (by rw [HTs.out, nats_app]; exact HB.out), HF⟩, by simp [intOf]; omega⟩
      | false =>
        go_wp2_with (go_at_call 30; refine Calls.mono (bwByte _ _ _ _ HB.out (by omega)) ?_; rintro e w2 ⟨rfl, hb, hf⟩; replace HF := hide (HF.out.trans hf); replace HB := hide hb; clear hb hf)
        exact ⟨⟨k + 1, by simp, by omega, hide (by rw [HTs.out, nats_app]; exact HB.out), HF⟩, by simp [intOf]; omega⟩
    · obtain rfl : k = l.length := by omega
      have hbk := HB.out
      rw [List.take_length] at hbk
      have HBK := hide hbk
      clear hbk HB hlq
      go_wp2_with (go_at_call 25; refine Calls.mono (bStringN _ _ _ HBK.out) ?_; rintro e w3 ⟨rfl, hf⟩; replace HF := hide (HF.out.trans hf); clear hf)
      go_ret
      exact ⟨rfl, HF.out⟩
end Go.Proofs.YtahnnebpadbopaaGreatDoor
/- Walks: (*front.reader).space, text. -/
namespace Go.Proofs.YtahnnebpadbopaaGreatDoor
open Go.RowKit

/-- A line's reader in memory. -/
def LrAt (w : World) (g : Nat) (r : List UInt8 × Bool) : Prop := Bk w g 115 #[.string (blB r.1), .bool r.2]
set_option maxRecDepth 100000 in
set_option maxHeartbeats 4000000 in
theorem space_any (g : Nat) (r : List UInt8 × Bool) (w : World) (h : LrAt w g r) :
    Calls Tryz.prog 83 #[.pointer (some ⟨g, 0, none⟩)] w fun e w' => e = .returned (.tuple #[]) ∧ LrAt w' g (rdSpace r) ∧ Fr (fun k => k = g) w w' := by
  obtain ⟨s, ok⟩ := r
  have hc := fun W => Tryz.strings_CutPrefix (blB s) ⟨#[32]⟩ W
  obtain ⟨S, hS⟩ : ∃ S, S = blB (Lib.trimPrefix s [32]) := ⟨_, rfl⟩
  obtain ⟨b, hb⟩ : ∃ b, b = Lib.hasPrefix s [32] := ⟨_, rfl⟩
  have HC := hide (show ∀ W, Calls Tryz.prog 116 #[.string (blB s), .string ⟨#[32]⟩] W fun e w' => e = .returned (.tuple #[.string S, .bool b]) ∧ w' = W from fun W => by rw [hS, hb]; exact hc W)
  have h' : Bk w g 115 #[.string (blB s), .bool ok] := h
  obtain ⟨c0, c1⟩ := two_cells h'
  have f0 := h'.free 0
  have f1 := h'.free 1
  have lg := h'.lt
  have H := hide h'
  have HS := hide hS
  have HB := hide hb
  clear hc hS hb h h'
  have hr : ∀ (W : World) (v : Bool), Bk W g 115 #[.string S, .bool v] → v = (ok && b) → LrAt W g (rdSpace (s, ok)) := fun W v hk hv => by
    unfold LrAt rdSpace
    dsimp only
    rw [← HB.out, ← hv, ← HS.out]
    exact hk
  have HR := hide hr
  clear hr
  cases ok with
  | true =>
    go_enter Tryz.func83, Tryz.ntmps83
    go_wp2_with (go_at_call 116; refine Calls.mono (HC.out _) ?_; rintro e w1 ⟨rfl, rfl⟩)
    go_end0
    exact ⟨rfl, HR.out _ b ((H.out.set_ 0 _).set_ 1 _) (by simp), ((Fr.refl (fun k => k = g) w1).setCell (p := ⟨g, 0, none⟩) (.inl rfl) _).setCell (p := ⟨g, 1, none⟩) (.inl rfl) _⟩
  | false =>
    go_enter Tryz.func83, Tryz.ntmps83
    go_wp2_with (go_at_call 116; refine Calls.mono (HC.out _) ?_; rintro e w1 ⟨rfl, rfl⟩)
    go_end0
    exact ⟨rfl, HR.out _ false ((H.out.set_ 0 _).set_ 1 _) (by simp), ((Fr.refl (fun k => k = g) w1).setCell (p := ⟨g, 0, none⟩) (.inl rfl) _).setCell (p := ⟨g, 1, none⟩) (.inl rfl) _⟩
theorem space_len (r : List UInt8 × Bool) : (rdSpace r).1.length ≤ r.1.length := by
  unfold rdSpace Lib.trimPrefix
  dsimp only
  split
  · rw [List.length_drop]; omega
  · exact Nat.le_refl _
set_option maxRecDepth 100000 in
set_option maxHeartbeats 4000000 in
theorem rtext_any (g : Nat) (r : List UInt8 × Bool) (w : World) (h : LrAt w g r) (hs : r.1.length ≤ 100000000) :
    Calls Tryz.prog 56 #[.pointer (some ⟨g, 0, none⟩)] w fun e w' => e = .returned (.string (blB (rdText r).1)) ∧ LrAt w' g (rdText r).2 ∧ Fr (fun k => k = g) w w' := by
  have hsp := space_any g r w h
  have hle := space_len r
  have htx : rdText r = match unquoteB (rdSpace r).1 with
    | some u => (u.1, u.2, (rdSpace r).2)
    | none => ([], [], false) := rfl
  rw [htx]
  obtain ⟨q, hq⟩ : ∃ q, q = rdSpace r := ⟨_, rfl⟩
  rw [← hq] at hsp hle ⊢
  obtain ⟨s, ok⟩ := q
  dsimp only at hle ⊢
  have hu := fun W => funquote_any (blB s) W (by rw [← bl_size, bl_blB]; omega)
  rw [bl_blB] at hu
  have HSp := hide hsp
  clear hsp htx hq h hle hs
  have step : ∀ (w1 : World) (t rest : ByteArray) (v : Bool), LrAt w1 g (s, ok) → ∀ w2, Below w1.heap.size w1 w2 → Bk ((w2.setCell ⟨g, 0, none⟩ (.string rest)).setCell ⟨g, 1, none⟩ (.bool v)) g 115 #[.string rest, .bool v] := fun w1 t rest v hl w2 hb => (((show Bk w1 g 115 #[.string (blB s), .bool ok] from hl).keep hb).set_ 0 _).set_ 1 _
  have HStep := hide step
  clear step
  cases hun : unquoteB s with
  | none =>
    rw [hun] at hu
    have HU := hide (show ∀ W, Calls Tryz.prog 13 #[.string (blB s)] W fun e w' => e = .returned (.tuple #[.string ⟨#[]⟩, .string ⟨#[]⟩, .int .i64 7]) ∧ Below W.heap.size W w' from hu)
    clear hu hun
    cases ok with
    | true =>
      go_enter Tryz.func56, Tryz.ntmps56
      go_wp2_with (first
        | (go_at_call 83; refine Calls.mono HSp.out ?_; rintro e w1 ⟨rfl, hl, hf⟩; have hl' : Bk w1 g 115 #[.string (blB s), .bool true] := hl; obtain ⟨c0, c1⟩ := two_cells hl'; have lg := hl'.lt; have HL := hide hl; have HF := hide hf; clear hl hf hl')
        | (go_at_call 13; refine Calls.mono (HU.out _) ?_; rintro e w2 ⟨rfl, hb⟩; have hk := (show Bk w1 g 115 #[.string (blB s), .bool true] from HL.out).keep hb; obtain ⟨d0, d1⟩ := two_cells hk; have f0 := hk.free 0; have f1 := hk.free 1; have lg2 := hk.lt; have HB := hide hb; clear hb hk))
      go_ret
      exact ⟨rfl, HStep.out w1 ⟨#[]⟩ ⟨#[]⟩ false HL.out w2 HB.out, ((HF.out.trans (Fr.below HB.out (fun k => k = g)) (fun _ h => .inl h)).setCell (p := ⟨g, 0, none⟩) (.inl rfl) _).setCell (p := ⟨g, 1, none⟩) (.inl rfl) _⟩
    | false =>
      go_enter Tryz.func56, Tryz.ntmps56
      go_wp2_with (first
        | (go_at_call 83; refine Calls.mono HSp.out ?_; rintro e w1 ⟨rfl, hl, hf⟩; have hl' : Bk w1 g 115 #[.string (blB s), .bool false] := hl; obtain ⟨c0, c1⟩ := two_cells hl'; have lg := hl'.lt; have HL := hide hl; have HF := hide hf; clear hl hf hl')
        | (go_at_call 13; refine Calls.mono (HU.out _) ?_; rintro e w2 ⟨rfl, hb⟩; have hk := (show Bk w1 g 115 #[.string (blB s), .bool false] from HL.out).keep hb; obtain ⟨d0, d1⟩ := two_cells hk; have f0 := hk.free 0; have f1 := hk.free 1; have lg2 := hk.lt; have HB := hide hb; clear hb hk))
      go_ret
      exact ⟨rfl, HStep.out w1 ⟨#[]⟩ ⟨#[]⟩ false HL.out w2 HB.out, ((HF.out.trans (Fr.below HB.out (fun k => k = g)) (fun _ h => .inl h)).setCell (p := ⟨g, 0, none⟩) (.inl rfl) _).setCell (p := ⟨g, 1, none⟩) (.inl rfl) _⟩
  | some u =>
    obtain ⟨t, rest⟩ := u
    rw [hun] at hu
    have HU := hide (show ∀ W, Calls Tryz.prog 13 #[.string (blB s)] W fun e w' => e = .returned (.tuple #[.string (blB t), .string (blB rest), .int .i64 0]) ∧ Below W.heap.size W w' from hu)
    clear hu hun
    cases ok with
    | true =>
      go_enter Tryz.func56, Tryz.ntmps56
      go_wp2_with (first
        | (go_at_call 83; refine Calls.mono HSp.out ?_; rintro e w1 ⟨rfl, hl, hf⟩; have hl' : Bk w1 g 115 #[.string (blB s), .bool true] := hl; obtain ⟨c0, c1⟩ := two_cells hl'; have lg := hl'.lt; have HL := hide hl; have HF := hide hf; clear hl hf hl')
        | (go_at_call 13; refine Calls.mono (HU.out _) ?_; rintro e w2 ⟨rfl, hb⟩; have hk := (show Bk w1 g 115 #[.string (blB s), .bool true] from HL.out).keep hb; obtain ⟨d0, d1⟩ := two_cells hk; have f0 := hk.free 0; have f1 := hk.free 1; have lg2 := hk.lt; have HB := hide hb; clear hb hk))
      go_ret
      exact ⟨rfl, HStep.out w1 (blB t) (blB rest) true HL.out w2 HB.out, ((HF.out.trans (Fr.below HB.out (fun k => k = g)) (fun _ h => .inl h)).setCell (p := ⟨g, 0, none⟩) (.inl rfl) _).setCell (p := ⟨g, 1, none⟩) (.inl rfl) _⟩
    | false =>
      go_enter Tryz.func56, Tryz.ntmps56
      go_wp2_with (first
        | (go_at_call 83; refine Calls.mono HSp.out ?_; rintro e w1 ⟨rfl, hl, hf⟩; have hl' : Bk w1 g 115 #[.string (blB s), .bool false] := hl; obtain ⟨c0, c1⟩ := two_cells hl'; have lg := hl'.lt; have HL := hide hl; have HF := hide hf; clear hl hf hl')
        | (go_at_call 13; refine Calls.mono (HU.out _) ?_; rintro e w2 ⟨rfl, hb⟩; have hk := (show Bk w1 g 115 #[.string (blB s), .bool false] from HL.out).keep hb; obtain ⟨d0, d1⟩ := two_cells hk; have f0 := hk.free 0; have f1 := hk.free 1; have lg2 := hk.lt; have HB := hide hb; clear hb hk))
      go_ret
      exact ⟨rfl, HStep.out w1 (blB t) (blB rest) false HL.out w2 HB.out, ((HF.out.trans (Fr.below HB.out (fun k => k = g)) (fun _ h => .inl h)).setCell (p := ⟨g, 0, none⟩) (.inl rfl) _).setCell (p := ⟨g, 1, none⟩) (.inl rfl) _⟩
end Go.Proofs.YtahnnebpadbopaaGreatDoor
