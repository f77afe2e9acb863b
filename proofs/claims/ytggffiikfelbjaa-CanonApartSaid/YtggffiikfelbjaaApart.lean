/- Walk: wringerlaw21.CanonApart. -/
import Derived.Test.YtggffiikfelbjaaApartPlain
import Derived.Test.YtggffiikfelbjaaLives21
namespace Go.Proofs.Ytggffiikfelbjaa
open Go.RowKit

set_option maxRecDepth 100000 in
set_option maxHeartbeats 4000000 in
theorem canonApart_any (A : Option Addr) (ls : List Int) (c : Nat) (w : World) (h : Rd w w.heap.size A (ls.map (.int .i64))) (hlen : ls.length ≤ 9223372036854775807) :
    Calls Try.prog 5 #[.slice A ls.length c] w fun e w' => e = .returned (.bool true) ∧ Below w.heap.size w w' := by
  have H := hide h
  clear h
  by_cases hok : okL ls = true
  · have HK := hide hok
    have h512 := okL_len hok
    have e1 : codesL ls = tab ls.length (fun j => (codeN ls j : Nat)) := by simp [codesL, hok]
    have e2 : okW ls = 0 := by simp [okW, hok]
    have cd : ∀ W, Below w.heap.size w W → Calls Try.prog 13 #[.slice A ls.length c] W fun e w' => ∃ A' c', e = .returned (.tuple #[.slice A' ls.length c', .int .i64 0]) ∧ Rd w' w'.heap.size A' ((tab ls.length (fun j => (codeN ls j : Nat))).map (.int .u64)) ∧ Below W.heap.size W w' := fun W hW => by
      refine (codes_any A ls c W ((H.out.below hW).more hW.size) hlen).mono ?_
      rintro e w' ⟨A', c', rfl, hrd, hb⟩
      rw [e1] at hrd
      exact ⟨A', c', by rw [e1, e2, tab_length], hrd, hb⟩
    have HCd := hide cd
    clear hok e1 e2 cd
    go_enter Try.func5, Try.ntmps5
    go_wp2_with (first
      | (go_at_call 12; refine (lives21 _).mono ?_; rintro e w1 ⟨rfl, hb1⟩)
      | (go_at_call 13; refine (Calls.mono (HCd.out _ hb1) ?_); rintro e w2 ⟨A', c', rfl, hrd, hb2⟩))
    have hbe : Below w.heap.size w w2 := hb1.trans (hb2.mono hb1.size)
    have HRd := hide hrd
    have HL := hide (H.out.below hbe)
    clear hb1 hb2 hrd
    go_loopw [30] (fun i wr => ∃ k j : Nat, k ≤ ls.length ∧ i = .int .i64 k ∧ wr = w2.drewN j) (fun i _ => ls.length - (intOf i).toNat)
    case atStart => exact ⟨0, 0, by omega, rfl, rfl⟩
    case round =>
      obtain ⟨i, j, hi, rfl, rfl⟩ := hrel
      by_cases hlt : i < ls.length
      · obtain ⟨b, o, n, rfl, hb, hn, hcn⟩ := HL.out.int hlt
        have hnr := okL_range HK.out hn
        obtain ⟨n, rfl⟩ := Int.eq_ofNat_of_zero_le hnr.1
        obtain ⟨b2, o2, hA', hb2, hcv⟩ := HRd.out i (.int .u64 (codeN ls i : Nat)) (by rw [List.getElem?_map, tab_get _ hlt]; rfl)
        subst hA'
        obtain ⟨V, hV⟩ : ∃ V, V = codeN ls i := ⟨_, rfl⟩
        have hVb := codeN_lt ls i h512
        rw [← hV] at hcv hVb
        have HN := hide hn
        have HV := hide hV
        clear hn hV
        go_wp2_with fail
        go_loopw [37] (fun k wx => ∃ q j2 : Nat, q ≤ ls.length ∧ k = .int .i64 q ∧ wx = w2.drewN j2) (fun k _ => ls.length - (intOf k).toNat)
        case atStart => exact ⟨0, j, by omega, rfl, rfl⟩
        case round =>
          obtain ⟨k, j2, hk, rfl, rfl⟩ := hrel
          by_cases hkl : k < ls.length
          · obtain ⟨b', o', m, hbo, _, hm, hcm⟩ := HL.out.int hkl
            simp only [Option.some.injEq, Addr.mk.injEq, and_true] at hbo
            obtain ⟨rfl, rfl⟩ := hbo
            have hmr := okL_range HK.out hm
            obtain ⟨m, rfl⟩ := Int.eq_ofNat_of_zero_le hmr.1
            obtain ⟨b2', o2', hA', _, hcu⟩ := HRd.out k (.int .u64 (codeN ls k : Nat)) (by rw [List.getElem?_map, tab_get _ hkl]; rfl)
            simp only [Option.some.injEq, Addr.mk.injEq, and_true] at hA'
            obtain ⟨rfl, rfl⟩ := hA'
            obtain ⟨U, hU⟩ : ∃ U, U = codeN ls k := ⟨_, rfl⟩
            have hUb := codeN_lt ls k h512
            rw [← hU] at hcu hUb
            have HM := hide hm
            have HU := hide hU
            clear hm hU
            by_cases g : i = k ∨ n = 0 ∨ m < n
            · by_cases ga : i = k
              · have b1 : ((i : Int) == (k : Int)) = true := by simp; omega
                have HG := hide ga
                clear g ga
                go_wp2_with fail
                go_roundw
                case rel => exact ⟨k + 1, j2, by omega, by go_num, rfl⟩
                case measure => simp [intOf]; omega
              · have b1 : ((i : Int) == (k : Int)) = false := by simp; omega
                by_cases gb : n = 0
                · have b2 : ((n : Int) == 0) = true := by simp; omega
                  have HG := hide gb
                  clear g ga gb
                  go_wp2_with fail
                  go_roundw
                  case rel => exact ⟨k + 1, j2, by omega, by go_num, rfl⟩
                  case measure => simp [intOf]; omega
                · have b2 : ((n : Int) == 0) = false := by simp; omega
                  have b3 : decide (m < n) = true := decide_eq_true (by omega)
                  clear g ga gb
                  go_wp2_with fail
                  go_roundw
                  case rel => exact ⟨k + 1, j2, by omega, by go_num, rfl⟩
                  case measure => simp [intOf]; omega
            · have g1 : ((i : Int) == (k : Int)) = false := by simp; omega
              have g2 : ((n : Int) == 0) = false := by simp; omega
              have g3 : decide (m < n) = false := decide_eq_false (by omega)
              have e1 : IntKind.i64.wrap ((m : Int) - (n : Int)) = (m : Int) - (n : Int) := IntWalk.i64_in _ ⟨by omega, by omega⟩
              have e2 : (0 : Int) ≤ (m : Int) - (n : Int) := by omega
              by_cases gm : n < m
              · have hap := apart_long HN.out HM.out (by omega) (by omega) gm
                rw [← HV.out, ← HU.out] at hap
                obtain ⟨Q, hQ⟩ : ∃ Q, Q = U / 2 ^ (m - n) := ⟨_, rfl⟩
                rw [← hQ] at hap
                have hQ' : (U : Int) / 2 ^ (m - n) = (Q : Int) := by rw [hQ, Int.natCast_ediv, Int.natCast_pow]; rfl
                have q1 : ((Q : Int) == (V : Int)) = false := by simp; omega
                have q2 : decide (n < m) = true := decide_eq_true gm
                have q3 : decide (Q < V) = false := decide_eq_false (by omega)
                have q4 : ((m : Int) == (n : Int)) = false := by simp; omega
                clear hQ g
                go_wp2_with fail
                go_quiet (fail)
                go_wp2_with fail
                go_roundw
                case rel => exact ⟨k + 1, _, by omega, by go_num, rfl⟩
                case measure => simp [intOf]; omega
              · obtain rfl : n = m := by omega
                by_cases gi : i < k
                · have hap := apart_same HN.out HM.out (by omega) (by omega) gi
                  rw [← HV.out, ← HU.out] at hap
                  have q1 : ((U : Int) == (V : Int)) = false := by simp; omega
                  have q2 : decide (n < n) = false := decide_eq_false (by omega)
                  have q4 : ((n : Int) == (n : Int)) = true := by simp
                  have q5 : decide (i < k) = true := decide_eq_true gi
                  have q6 : decide (V < U) = true := decide_eq_true hap
                  clear g gm
                  go_wp2_with fail
                  go_quiet (fail)
                  go_wp2_with fail
                  go_roundw
                  case rel => exact ⟨k + 1, _, by omega, by go_num, rfl⟩
                  case measure => simp [intOf]; omega
                · have hap := apart_same HM.out HN.out (by omega) (by omega) (show k < i by omega)
                  rw [← HV.out, ← HU.out] at hap
                  have q1 : ((U : Int) == (V : Int)) = false := by simp; omega
                  have q2 : decide (n < n) = false := decide_eq_false (by omega)
                  have q4 : ((n : Int) == (n : Int)) = true := by simp
                  have q5 : decide (i < k) = false := decide_eq_false gi
                  have q6 : decide (V < U) = false := decide_eq_false (by omega)
                  clear g gm
                  go_wp2_with fail
                  go_quiet (fail)
                  go_wp2_with fail
                  go_roundw
                  case rel => exact ⟨k + 1, _, by omega, by go_num, rfl⟩
                  case measure => simp [intOf]; omega
          · go_wp2_with fail
            go_roundw
            case rel => exact ⟨i + 1, j2, by omega, by go_num, rfl⟩
            case measure => simp [intOf]; omega
      · go_wp2_with fail
        go_ret
        exact ⟨rfl, below_drewN hbe j⟩
  · have hok : okL ls = false := by simpa using hok
    have e1 : codesL ls = [] := by simp [codesL, hok]
    have e2 : okW ls = 7 := by simp [okW, hok]
    have cd : ∀ W, Below w.heap.size w W → Calls Try.prog 13 #[.slice A ls.length c] W fun e w' => ∃ A' c', e = .returned (.tuple #[.slice A' 0 c', .int .i64 7]) ∧ Below W.heap.size W w' := fun W hW => by
      refine (codes_any A ls c W ((H.out.below hW).more hW.size) hlen).mono ?_
      rintro e w' ⟨A', c', rfl, hrd, hb⟩
      exact ⟨A', c', by rw [e1, e2]; rfl, hb⟩
    have HCd := hide cd
    clear hok e1 e2 cd
    go_enter Try.func5, Try.ntmps5
    go_wp2_with (first
      | (go_at_call 12; refine (lives21 _).mono ?_; rintro e w1 ⟨rfl, hb1⟩)
      | (go_at_call 13; refine (Calls.mono (HCd.out _ hb1) ?_); rintro e w2 ⟨A', c', rfl, hb2⟩))
    go_ret
    exact ⟨rfl, hb1.trans (hb2.mono hb1.size)⟩
end Go.Proofs.Ytggffiikfelbjaa
