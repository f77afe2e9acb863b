/- Walk: wringerlaw21.CanonCodes. -/
import Derived.Test.YtggffiikfelbjaaRefFind
import Derived.Test.YtggffiikfelbjaaLives21
namespace Go.Proofs.Ytggffiikfelbjaa
open Go.RowKit

set_option maxRecDepth 100000 in
set_option maxHeartbeats 4000000 in
theorem canonCodes_any (A : Option Addr) (ls : List Int) (c : Nat) (code length : Int) (w : World) (h : Rd w w.heap.size A (ls.map (.int .i64))) (hlen : ls.length ≤ 9223372036854775807) (hcd : U64 code) (hl : I64 length) :
    Calls Try.prog 3 #[.slice A ls.length c, .int .u64 code, .int .i64 length] w fun e w' => e = .returned (.bool true) ∧ Below w.heap.size w w' := by
  have H := hide h
  have HC := hide hcd
  have HL := hide hl
  clear h hcd hl
  have reads : ∀ W, Below w.heap.size w W → Rd W W.heap.size A (ls.map (.int .i64)) := fun W hW => (H.out.below hW).more hW.size
  have HR := hide reads
  clear reads
  obtain ⟨K, hK⟩ : ∃ K, K = codesL ls := ⟨_, rfl⟩
  have hKl : K.length ≤ 9223372036854775807 := by
    rw [hK]; unfold codesL; split
    · simp [tab]; omega
    · simp
  have hKs : sameL K K = true := sameL_eq rfl
  obtain ⟨k1, hk1⟩ : ∃ k1, k1 = okW ls := ⟨_, rfl⟩
  obtain ⟨f1, hf1⟩ : ∃ f1, f1 = (findR ls code length).1 := ⟨_, rfl⟩
  obtain ⟨f2, hf2⟩ : ∃ f2, f2 = (findR ls code length).2 := ⟨_, rfl⟩
  have E := hide (And.intro hK (And.intro hk1 (And.intro hf1 hf2)))
  have HKl := hide hKl
  have HKs := hide hKs
  clear hK hk1 hf1 hf2 hKl hKs
  have q1 : (k1 == k1) = true := by simp
  have q2 : (f1 == f1) = true := by simp
  have q3 : (f2 == f2) = true := by simp
  by_cases g : 60 < ls.length ∧ ls.length ≤ 512
  · obtain ⟨ga, gb⟩ := g
    have b1 : decide ((60 : Int) < (ls.length : Int)) = true := decide_eq_true (by omega)
    have b2 : decide ((ls.length : Int) ≤ 512) = true := decide_eq_true (by omega)
    go_enter Try.func3, Try.ntmps3
    go_wp2_with (first | (go_at_call 12; refine (lives21 _).mono ?_; rintro e w1 ⟨rfl, hb1⟩))
    go_ret
    exact ⟨rfl, hb1⟩
  · by_cases ga : 60 < ls.length
    · have b1 : decide ((60 : Int) < (ls.length : Int)) = true := decide_eq_true (by omega)
      have b2 : decide ((ls.length : Int) ≤ 512) = false := decide_eq_false (by omega)
      clear g ga
      go_enter Try.func3, Try.ntmps3
      go_wp2_with (first
        | (go_at_call 13; refine (codes_any A ls c _ (HR.out _ (Below.refl _ _)) hlen).mono ?_; rintro e w1 ⟨A1, c1, rfl, hr1, hb1⟩; rw [← E.out.1] at hr1 ⊢; rw [← E.out.2.1])
        | (go_at_call 14; refine (refCodes_any A ls c _ (HR.out _ hb1) hlen).mono ?_; rintro e w2 ⟨A2, c2, rfl, hr2, hb2⟩; rw [← E.out.1] at hr2 ⊢; rw [← E.out.2.1]; have hbe2 := hb1.trans (hb2.mono hb1.size); replace hr1 := (hr1.below hb2).more hb2.size)
        | (go_at_call 15; refine (cfind_any A ls c code length _ (HR.out _ hbe2) hlen HC.out HL.out).mono ?_; rintro e w3 ⟨rfl, hb3⟩; rw [← E.out.2.2.1, ← E.out.2.2.2]; have hbe3 := hbe2.trans (hb3.mono hbe2.size); replace hr1 := (hr1.below hb3).more hb3.size; replace hr2 := (hr2.below hb3).more hb3.size)
        | (go_at_call 16; refine (refFind_any A ls c code length _ (HR.out _ hbe3) hlen HC.out HL.out).mono ?_; rintro e w4 ⟨rfl, hb4⟩; rw [← E.out.2.2.1, ← E.out.2.2.2]; have hbe4 := hbe3.trans (hb4.mono hbe3.size); replace hr1 := (hr1.below hb4).more hb4.size; replace hr2 := (hr2.below hb4).more hb4.size)
        | (go_at_call 12; refine (lives21 _).mono ?_; rintro e w5 ⟨rfl, hb5⟩; have hbe5 := hbe4.trans (hb5.mono hbe4.size); replace hr1 := (hr1.below hb5).more hb5.size; replace hr2 := (hr2.below hb5).more hb5.size)
        | (go_at_call 17; refine (sameOne_any A1 A2 K K c1 c2 _ hr1 hr2 HKl.out HKl.out).mono ?_; rintro e w6 ⟨rfl, j6, rfl⟩; rw [HKs.out])
        | (go_at_call 18; refine (canonCheck_any A ls c _ (HR.out _ (below_drewN hbe5 _)) hlen).mono ?_; rintro e w7 ⟨rfl, rfl⟩; rw [← E.out.2.1])
        | (go_at_call 19; refine (refCanonCheck_any A ls c _ (HR.out _ (below_drewN hbe5 _)) hlen).mono ?_; rintro e w8 ⟨rfl, rfl⟩; rw [← E.out.2.1]))
      go_ret
      exact ⟨rfl, below_drewN hbe5 _⟩
    · have b1 : decide ((60 : Int) < (ls.length : Int)) = false := decide_eq_false (by omega)
      clear g ga
      go_enter Try.func3, Try.ntmps3
      go_wp2_with (first
        | (go_at_call 13; refine (codes_any A ls c _ (HR.out _ (Below.refl _ _)) hlen).mono ?_; rintro e w1 ⟨A1, c1, rfl, hr1, hb1⟩; rw [← E.out.1] at hr1 ⊢; rw [← E.out.2.1])
        | (go_at_call 14; refine (refCodes_any A ls c _ (HR.out _ hb1) hlen).mono ?_; rintro e w2 ⟨A2, c2, rfl, hr2, hb2⟩; rw [← E.out.1] at hr2 ⊢; rw [← E.out.2.1]; have hbe2 := hb1.trans (hb2.mono hb1.size); replace hr1 := (hr1.below hb2).more hb2.size)
        | (go_at_call 15; refine (cfind_any A ls c code length _ (HR.out _ hbe2) hlen HC.out HL.out).mono ?_; rintro e w3 ⟨rfl, hb3⟩; rw [← E.out.2.2.1, ← E.out.2.2.2]; have hbe3 := hbe2.trans (hb3.mono hbe2.size); replace hr1 := (hr1.below hb3).more hb3.size; replace hr2 := (hr2.below hb3).more hb3.size)
        | (go_at_call 16; refine (refFind_any A ls c code length _ (HR.out _ hbe3) hlen HC.out HL.out).mono ?_; rintro e w4 ⟨rfl, hb4⟩; rw [← E.out.2.2.1, ← E.out.2.2.2]; have hbe4 := hbe3.trans (hb4.mono hbe3.size); replace hr1 := (hr1.below hb4).more hb4.size; replace hr2 := (hr2.below hb4).more hb4.size)
        | (go_at_call 12; refine (lives21 _).mono ?_; rintro e w5 ⟨rfl, hb5⟩; have hbe5 := hbe4.trans (hb5.mono hbe4.size); replace hr1 := (hr1.below hb5).more hb5.size; replace hr2 := (hr2.below hb5).more hb5.size)
        | (go_at_call 17; refine (sameOne_any A1 A2 K K c1 c2 _ hr1 hr2 HKl.out HKl.out).mono ?_; rintro e w6 ⟨rfl, j6, rfl⟩; rw [HKs.out])
        | (go_at_call 18; refine (canonCheck_any A ls c _ (HR.out _ (below_drewN hbe5 _)) hlen).mono ?_; rintro e w7 ⟨rfl, rfl⟩; rw [← E.out.2.1])
        | (go_at_call 19; refine (refCanonCheck_any A ls c _ (HR.out _ (below_drewN hbe5 _)) hlen).mono ?_; rintro e w8 ⟨rfl, rfl⟩; rw [← E.out.2.1]))
      go_ret
      exact ⟨rfl, below_drewN hbe5 _⟩
end Go.Proofs.Ytggffiikfelbjaa
