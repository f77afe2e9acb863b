/- Walk: table.Write. -/
import Derived.Test.YtggffiikfelbjaaDoorTabC
namespace Go.Proofs.YtggffiikfelbjaaDoor
open Go.RowKit

/-- What table.Write answers: why, and the bits. -/
def tabR (ls : List Int) (s : ByteArray) (n : Int) : Int × List Bool :=
  if rightB s n then if tabW ls = 0 then if 1048576 - ((tabBits ls).length : Nat) < n then (8, []) else (0, bitsL s n.toNat ++ tabBits ls) else (tabW ls, []) else (2, [])
def TabP (r : Int × List Bool) (s : ByteArray) (n : Int) (w : World) (e : Ending) (w' : World) : Prop :=
  ∃ s' n', e = .returned (.tuple #[bstr s' n', .int .i64 r.1]) ∧ ((r.1 = 0 ∧ Bs s' n' r.2) ∨ ((r.1 = 2 ∨ r.1 = 7) ∧ s' = ⟨#[]⟩ ∧ n' = 0) ∨ (r.1 = 8 ∧ s' = s ∧ n' = n)) ∧ Below w.heap.size w w'
theorem Below.two {w w1 : World} {o o2 : Obj} (h : Below ((w.alloc o).alloc o2).heap.size ((w.alloc o).alloc o2) w1) : Below w.heap.size w w1 := (((Below.refl _ _).alloc (Nat.le_refl _) _).alloc (by simp) _).trans (h.mono (by simp; omega))

set_option maxRecDepth 100000 in
set_option maxHeartbeats 4000000 in
theorem twrite_any (A : Option Addr) (ls : List Int) (c : Nat) (s : ByteArray) (n : Int) (w : World) (h : Rd w w.heap.size A (ls.map (.int .i64))) (hlen : ls.length ≤ 9223372036854775807) (hn : I64 n) (hs : s.size ≤ 9223372036854775807) :
    Calls Tryd.prog 6 #[bstr s n, .slice A ls.length c] w (TabP (tabR ls s n) s n w) := by
  have H := hide h
  have sz : ∀ W, Below w.heap.size w W → Calls Tryd.prog 8 #[.slice A ls.length c] W (TSizeP ls W) := fun W hW => tsize_any A ls c W ((h.below hW).more hW.size) hlen
  have HSz := hide sz
  clear h sz
  by_cases hr : rightB s n = true
  · have hz : chkB s n = 0 := by simp [chkB, hr]
    have hR := rightB_n hr
    obtain ⟨n, rfl⟩ := Int.eq_ofNat_of_zero_le hR.1
    have hb : n ≤ 1048576 := by omega
    have hsz : s.size = (n + 7) / 8 := by omega
    have HSs := hide hsz
    have HR := hide hr
    clear hsz hr hR
    by_cases h0 : tabW ls = 0
    · obtain ⟨hok, hne⟩ := tabW_zero h0
      have hT := tabBits_length_le hok
      have HOk := hide hok
      have HNe := hide hne
      obtain ⟨T, hTe⟩ : ∃ T, T = (tabBits ls).length := ⟨_, rfl⟩
      rw [← hTe] at hT
      have sz : ∀ W, Below w.heap.size w W → Calls Tryd.prog 8 #[.slice A ls.length c] W fun e w' => e = .returned (.tuple #[.int .i64 T, .int .i64 0]) ∧ ∃ j, w' = W.drewN j := fun W hW => by
        have := HSz.out W hW
        unfold TSizeP at this
        rw [h0, if_pos rfl, ← hTe] at this
        exact this
      have hre : tabR ls s n = if 1048576 - (T : Int) < (n : Nat) then (8, []) else (0, bitsL s n ++ tabBits ls) := by
        unfold tabR; rw [if_pos HR.out, if_pos h0, ← hTe]; rfl
      clear HSz
      have HSz := hide sz
      have HT := hide hTe
      have HRe := hide hre
      clear sz hok hne hTe hre h0
      by_cases g : 1048576 - (T : Int) < (n : Nat)
      · have gd : decide (1048576 - (T : Int) < (n : Nat)) = true := decide_eq_true g
        have hre := HRe.out
        rw [if_pos g] at hre
        have HRe := hide hre
        clear g hre
        go_enter Tryd.func6, Tryd.ntmps6
        go_wp2_with (first
          | (go_at_call 12; refine (check_any s n _ hn hs).mono ?_; rintro e w1 ⟨rfl, hb1⟩; rw [hz]; have hbe1 := Below.two hb1; have kb := ((Bk.new w _ _).alloc _).keep hb1; have kr := (Bk.new1 w _ _ _).keep hb1)
          | (go_at_call 8; refine (Calls.mono (HSz.out _ hbe1) ?_); rintro e w2 ⟨rfl, j2, rfl⟩; obtain ⟨q0, q1⟩ := two_cells kb; obtain ⟨r0, r1⟩ := two_cells kr; have y0 := kr.free 0; have y1 := kr.free 1))
        obtain ⟨t0, t1⟩ := two_cells (((kr.drewN j2).set_ 0 (.string s)).set_ 1 (.int .i64 n))
        refine bodyPost_ret (v := .tuple #[bstr s n, .int .i64 8]) (by simp [results, Tryd.results6, go_sem, t0, t1]) rfl ?_
        rw [HRe.out]
        exact ⟨s, n, rfl, .inr (.inr ⟨rfl, rfl, rfl⟩), ((below_drewN hbe1 j2).setCell (by simp) _).setCell (by simp) _⟩
      · have gd : decide (1048576 - (T : Int) < (n : Nat)) = false := decide_eq_false g
        have hre := HRe.out
        rw [if_neg g] at hre
        have hnT : n + T ≤ 1048576 := by omega
        have HRe := hide hre
        clear g hre
        go_enter Tryd.func6, Tryd.ntmps6
        go_wp2_with (first
          | (go_at_call 12; refine (check_any s n _ hn hs).mono ?_; rintro e w1 ⟨rfl, hb1⟩; rw [hz]; have hbe1 := Below.two hb1; have kb := ((Bk.new w _ _).alloc _).keep hb1; have kr := (Bk.new1 w _ _ _).keep hb1)
          | (go_at_call 8; refine (Calls.mono (HSz.out _ hbe1) ?_); rintro e w2 ⟨rfl, j2, rfl⟩; have hbe2 := below_drewN hbe1 j2; have kb2 := (kb.drewN j2); have kr2 := kr.drewN j2; obtain ⟨W2, hW2⟩ : ∃ W2, W2 = w1.drewN j2 := ⟨_, rfl⟩; rw [← hW2] at hbe2 kb2 kr2 ⊢; clear hW2 kb kr hb1 hbe1; obtain ⟨q0, q1⟩ := two_cells kb2; have hz2 := kr2.lt; obtain ⟨q2, q3⟩ := two_cells (kb2.alloc (.cells #[.slice none 0 0, .int .u64 0, .int .i64 0] 43)))
          | (go_at_call 13; refine (copy_any _ none [] s n _ (Wr.new W2) HSs.out hb (by simp)).mono ?_; rintro e w3 ⟨rfl, row3, hwr3, hrn3, hfr3⟩))
        rw [List.nil_append] at hwr3
        have hrow3 := rowB (B := W2.heap.size) hrn3 (by simp) (by simp)
        have hbe3 : Below W2.heap.size W2 w3 := ((Below.refl _ _).alloc (Nat.le_refl _) _).trans (frB hfr3 (Nat.le_refl _) (by simp) (by simp))
        have hrd3 : Rd w3 W2.heap.size A (ls.map (.int .i64)) := ((H.out.below hbe2).more hbe2.size).below hbe3
        have ad := tadd_any W2.heap.size W2.heap.size row3 (bitsL s n) A ls c w3 hwr3 hbe3.size (Nat.le_refl _) hrow3 hrd3 HOk.out HNe.out (by simp; omega)
        have HAd := hide ad
        obtain ⟨L, hL⟩ : ∃ L, L = bitsL s n ++ tabBits ls := ⟨_, rfl⟩
        have hLl : L.length ≤ 1048576 := by rw [hL, List.length_append, bitsL_length, ← HT.out]; exact hnT
        have hre := HRe.out
        rw [← hL] at hre
        have HRe := hide hre
        have HL := hide hL
        clear hre hL ad hrd3 hwr3 hrn3 hfr3 hrow3 q0 q1 q2 q3
        refine (Calls.mono HAd.out ?_)
        unfold TAddP
        rintro e w4 ⟨rfl, row4, hwr4, hrow4, hb4⟩
        rw [← HL.out] at hwr4
        have hbe4 := hbe3.trans hb4
        have kr4 := kr2.below hbe4 hz2
        have bt := wbits_any W2.heap.size row4 L w4 hwr4 hLl
        have HBt := hide bt
        clear bt hwr4 hrow4 HAd hb4 hbe3
        go_wp2_with (go_at_call 15; refine (Calls.mono HBt.out ?_); rintro e w5 ⟨s5, rfl, hbs5, hb5⟩; have kr5 := kr4.keep hb5; obtain ⟨r0, r1⟩ := two_cells kr5; have y0 := kr5.free 0; have y1 := kr5.free 1; have HBs := hide hbs5; clear hbs5)
        obtain ⟨t0, t1⟩ := two_cells ((kr5.set_ 0 (.string s5)).set_ 1 (.int .i64 (L.length : Nat)))
        refine bodyPost_ret (v := .tuple #[bstr s5 (L.length : Nat), .int .i64 0]) (by simp [results, Tryd.results6, go_sem, t0, t1]) rfl ?_
        rw [HRe.out]
        exact ⟨s5, _, rfl, .inl ⟨rfl, HBs.out⟩, ((hbe2.trans ((hbe4.trans (hb5.mono hbe4.size)).mono hbe2.size)).setCell (by simp) _).setCell (by simp) _⟩
    · have h7 := tabW_seven h0
      have hre : tabR ls s n = (7, []) := by unfold tabR; rw [if_pos HR.out, if_neg h0, h7]
      have sz : ∀ W, Below w.heap.size w W → Calls Tryd.prog 8 #[.slice A ls.length c] W fun e w' => e = .returned (.tuple #[.int .i64 0, .int .i64 7]) ∧ ∃ j, w' = W.drewN j := fun W hW => by
        have := HSz.out W hW
        unfold TSizeP at this
        rw [h7, if_neg (by decide)] at this
        exact this
      clear HSz
      have HSz := hide sz
      have HRe := hide hre
      clear sz hre h0 h7
      go_enter Tryd.func6, Tryd.ntmps6
      go_wp2_with (first
        | (go_at_call 12; refine (check_any s n _ hn hs).mono ?_; rintro e w1 ⟨rfl, hb1⟩; rw [hz]; have hbe1 := Below.two hb1; have kr := (Bk.new1 w _ _ _).keep hb1)
        | (go_at_call 8; refine (Calls.mono (HSz.out _ hbe1) ?_); rintro e w2 ⟨rfl, j2, rfl⟩; obtain ⟨r0, r1⟩ := two_cells kr; have y0 := kr.free 0; have y1 := kr.free 1))
      obtain ⟨t0, t1⟩ := two_cells (((kr.drewN j2).set_ 0 (.string ⟨#[]⟩)).set_ 1 (.int .i64 0))
      refine bodyPost_ret (v := .tuple #[bstr ⟨#[]⟩ 0, .int .i64 7]) (by simp [results, Tryd.results6, go_sem, t0, t1]) rfl ?_
      rw [HRe.out]
      exact ⟨⟨#[]⟩, 0, rfl, .inr (.inl ⟨.inr rfl, rfl, rfl⟩), ((below_drewN hbe1 j2).setCell (by simp) _).setCell (by simp) _⟩
  · have hz : chkB s n = 2 := by simp [chkB, hr]
    have hre : tabR ls s n = (2, []) := by unfold tabR; rw [if_neg hr]
    have HRe := hide hre
    clear hre hr
    go_enter Tryd.func6, Tryd.ntmps6
    go_wp2_with (go_at_call 12; refine (check_any s n _ hn hs).mono ?_; rintro e w1 ⟨rfl, hb1⟩; rw [hz]; have hbe1 := Below.two hb1; have kr := (Bk.new1 w _ _ _).keep hb1; obtain ⟨r0, r1⟩ := two_cells kr; have y0 := kr.free 0; have y1 := kr.free 1)
    obtain ⟨t0, t1⟩ := two_cells ((kr.set_ 0 (.string ⟨#[]⟩)).set_ 1 (.int .i64 0))
    refine bodyPost_ret (v := .tuple #[bstr ⟨#[]⟩ 0, .int .i64 2]) (by simp [results, Tryd.results6, go_sem, t0, t1]) rfl ?_
    rw [HRe.out]
    exact ⟨⟨#[]⟩, 0, rfl, .inr (.inl ⟨.inl rfl, rfl, rfl⟩), (hbe1.setCell (by simp) _).setCell (by simp) _⟩
end Go.Proofs.YtggffiikfelbjaaDoor
