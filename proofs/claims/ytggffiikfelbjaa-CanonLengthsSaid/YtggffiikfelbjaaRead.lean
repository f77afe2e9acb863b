/- Walk: canon.Read. -/
import Derived.Test.YtggffiikfelbjaaNext
namespace Go.Proofs.Ytggffiikfelbjaa
open Go.RowKit

/-- What canon.Read answers. -/
def readR (ls : List Int) (s : ByteArray) (n a : Int) : Int × Int × Int :=
  if rightB s n then if okL ls then if a < 0 ∨ n < a then (0, 0, 1) else nextC ls s n.toNat a.toNat 15 0 0 else (0, 0, 7) else (0, 0, 2)
set_option maxRecDepth 100000 in
set_option maxHeartbeats 1000000 in
theorem read_any (A : Option Addr) (ls : List Int) (c : Nat) (s : ByteArray) (n a : Int) (w : World) (h : Rd w w.heap.size A (ls.map (.int .i64))) (hlen : ls.length ≤ 9223372036854775807) (hn : I64 n) (ha : I64 a) (hs : s.size ≤ 9223372036854775807) :
    Calls Try.prog 22 #[bstr s n, .int .i64 a, .slice A ls.length c] w (NextP (readR ls s n a) w) := by
  have H := hide h
  clear h
  obtain ⟨a1, a2⟩ := ha
  by_cases hr : rightB s n = true
  · have hz : chkB s n = 0 := by simp [chkB, hr]
    have hR := rightB_n hr
    obtain ⟨n, rfl⟩ := Int.eq_ofNat_of_zero_le hR.1
    have hb : n ≤ 1048576 := by omega
    have hsz : s.size = (n + 7) / 8 := by omega
    have HSz := hide hsz
    have HR := hide hr
    have op : ∀ W, Below w.heap.size w W → Calls Try.prog 33 #[.slice A ls.length c] W (OpenP ls A c W) := fun W hW => open_any A ls c W ((H.out.below hW).more hW.size) hlen
    have HO := hide op
    clear op hsz hr hR
    by_cases hok : okL ls = true
    · have HK := hide hok
      have h512 := okL_len hok
      clear hok
      by_cases g : a < 0 ∨ (n : Int) < a
      · have hf : readR ls s n a = (0, 0, 1) := by unfold readR; rw [if_pos HR.out, if_pos HK.out, if_pos g]
        have HF := hide hf
        clear hf
        go_enter Try.func22, Try.ntmps22
        go_wp2_with (first | (go_at_call 37; refine (check_any s n _ hn hs).mono ?_; rintro e w1 ⟨rfl, hb1⟩; rw [hz]; obtain ⟨hc1, hf1⟩ := bcell hb1; have hbe1 : Below w.heap.size w w1 := ((Below.refl _ _).alloc (Nat.le_refl _) _).trans (hb1.mono (by simp))) | (go_at_call 33; refine (Calls.mono (HO.out _ hbe1) ?_); rintro e w2 hop; unfold OpenP at hop; rw [if_pos HK.out] at hop; obtain ⟨p, rfl, hbk, hb2⟩ := hop; have HBk := hide hbk; obtain ⟨hc2, hf2⟩ := bcell hb2; have hbz : w.heap.size < w1.heap.size := (by have := hb1.size; simp at this; omega); have hbe2 : Below w.heap.size w w2 := hbe1.trans (hb2.mono (by omega)); clear hbk))
        all_goals
          first
            | (exfalso; omega)
            | (go_ret3; exact NextP.of HF.out hbe2)
      · obtain ⟨a, rfl⟩ := Int.eq_ofNat_of_zero_le (show 0 ≤ a by omega)
        have g1 : a ≤ n := by omega
        have hf : readR ls s n a = nextC ls s n a 15 0 0 := by unfold readR; rw [if_pos HR.out, if_pos HK.out, if_neg g]; rfl
        rw [hf]
        have b1 : decide ((a : Int) < 0) = false := decide_eq_false (by omega)
        have b2 : decide (n < a) = false := decide_eq_false (by omega)
        clear hf g
        go_enter Try.func22, Try.ntmps22
        go_wp2_with (first | (go_at_call 37; refine (check_any s n _ hn hs).mono ?_; rintro e w1 ⟨rfl, hb1⟩; rw [hz]; obtain ⟨hc1, hf1⟩ := bcell hb1; have hbe1 : Below w.heap.size w w1 := ((Below.refl _ _).alloc (Nat.le_refl _) _).trans (hb1.mono (by simp))) | (go_at_call 33; refine (Calls.mono (HO.out _ hbe1) ?_); rintro e w2 hop; unfold OpenP at hop; rw [if_pos HK.out] at hop; obtain ⟨p, rfl, hbk, hb2⟩ := hop; have HBk := hide hbk; obtain ⟨hc2, hf2⟩ := bcell hb2; have hbz : w.heap.size < w1.heap.size := (by have := hb1.size; simp at this; omega); have hbe2 : Below w.heap.size w w2 := hbe1.trans (hb2.mono (by omega)); clear hbk) | (go_at_call 45; refine (next_any _ p ls A c s n a _ HBk.out (Nat.le_refl _) h512 hb HSz.out g1).mono ?_; rintro e w3 ⟨rfl, hb3⟩))
        go_ret3
        exact ⟨rfl, hbe2.trans (hb3.mono hbe2.size)⟩
    · have hok : okL ls = false := by simpa using hok
      have hf : readR ls s n a = (0, 0, 7) := by unfold readR; rw [if_pos HR.out, if_neg (by rw [hok]; decide)]
      have HF := hide hf
      have HK := hide hok
      clear hf hok
      go_enter Try.func22, Try.ntmps22
      go_wp2_with (first | (go_at_call 37; refine (check_any s n _ hn hs).mono ?_; rintro e w1 ⟨rfl, hb1⟩; rw [hz]; obtain ⟨hc1, hf1⟩ := bcell hb1; have hbe1 : Below w.heap.size w w1 := ((Below.refl _ _).alloc (Nat.le_refl _) _).trans (hb1.mono (by simp))) | (go_at_call 33; refine (Calls.mono (HO.out _ hbe1) ?_); rintro e w2 hop; unfold OpenP at hop; rw [if_neg (by rw [HK.out]; decide)] at hop; obtain ⟨rfl, rfl⟩ := hop))
      go_ret3
      exact NextP.of HF.out hbe1
  · have hz : chkB s n = 2 := by simp [chkB, hr]
    have hf : readR ls s n a = (0, 0, 2) := by unfold readR; rw [if_neg hr]
    have HF := hide hf
    clear hf hr
    go_enter Try.func22, Try.ntmps22
    go_wp2_with (first | (go_at_call 37; refine (check_any s n _ hn hs).mono ?_; rintro e w1 ⟨rfl, hb1⟩; rw [hz]; obtain ⟨hc1, hf1⟩ := bcell hb1))
    go_ret3
    exact NextP.of HF.out (((Below.refl _ _).alloc (Nat.le_refl _) _).trans (hb1.mono (by simp)))
end Go.Proofs.Ytggffiikfelbjaa
