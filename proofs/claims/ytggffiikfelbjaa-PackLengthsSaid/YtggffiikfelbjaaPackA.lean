/- Walks: pack.heavy, slices.IndexFunc, ContainsFunc, pack.alphabet, cmp.Compare, leaves' comparison. -/
import Derived.Test.YtggffiikfelbjaaRoom
namespace Go.Proofs.Ytggffiikfelbjaa
open Go.RowKit

/-- A weight above what may be. -/
def heavyB (x : Int) : Bool := decide (1099511627776 < x)
/-- Weights for no more symbols than may be. -/
def alphaB (ws : List Int) : Bool := decide (ws.length ≤ 512) && !ws.any heavyB
theorem heavy_any (x : Int) (w : World) : Calls Try.prog 64 #[.int .u64 x] w fun e w' => e = .returned (.bool (heavyB x)) ∧ w' = w := by
  have hb : heavyB x = decide (1099511627776 < x) := rfl
  generalize heavyB x = b at hb ⊢
  go_enter Try.func64, Try.ntmps64
  go_wp2
  go_ret
  exact ⟨by rw [hb]; rfl, rfl⟩
/-- What IndexFunc answers. -/
def IndexFP (ws : List Int) (w : World) (e : Ending) (w' : World) : Prop := ∃ r : Int, e = .returned (.int .i64 r) ∧ (decide (0 ≤ r) = ws.any heavyB) ∧ w' = w
set_option maxHeartbeats 400000 in
theorem indexF_any (A : Option Addr) (ws : List Int) (c : Nat) (w : World) (h : Rd w w.heap.size A (ws.map (.int .u64))) (hlen : ws.length ≤ 9223372036854775807) :
    Calls Try.prog 69 #[.slice A ws.length c, .func (.func 64) #[] #[]] w (IndexFP ws w) := by
  have H := hide h
  clear h
  go_enter Try.func69, Try.ntmps69
  go_wp2_with fail
  go_loopw [8] (fun i wr => ∃ k : Nat, k ≤ ws.length ∧ i = .int .i64 k ∧ (ws.take k).any heavyB = false ∧ wr = w) (fun i _ => ws.length - (intOf i).toNat)
  case atStart => exact ⟨0, by omega, rfl, by simp, rfl⟩
  case round =>
    obtain ⟨k, hk, rfl, hno, rfl⟩ := hrel
    have HN := hide hno
    clear hno
    by_cases hlt : k < ws.length
    · obtain ⟨b, o, x, rfl, hb, hx, hc⟩ := H.out.int hlt
      have HX := hide hx
      have hv := heavy_any x wr
      obtain ⟨v, hve⟩ : ∃ v, v = heavyB x := ⟨_, rfl⟩
      rw [← hve] at hv
      have HV := hide hve
      have HC := hide hv
      clear hx hv hve
      cases v with
      | true =>
        go_wp2_with (go_at_call 64; refine (Calls.mono HC.out ?_); rintro e w1 ⟨rfl, hww⟩; replace hww := hww.symm; subst hww)
        go_ret
        refine ⟨k, rfl, ?_, rfl⟩
        rw [decide_eq_true (by omega)]
        exact (any_of HX.out HV.out.symm).symm
      | false =>
        go_wp2_with (go_at_call 64; refine (Calls.mono HC.out ?_); rintro e w1 ⟨rfl, hww⟩; replace hww := hww.symm; subst hww)
        go_roundw
        case rel => exact ⟨k + 1, by omega, by go_num, by rw [any_step HX.out, HN.out, ← HV.out]; rfl, by first | rfl | trivial⟩
        case measure => simp [intOf]; omega
    · go_wp2_with fail
      go_ret
      refine ⟨-1, rfl, ?_, rfl⟩
      have := HN.out
      rw [List.take_of_length_le (by omega)] at this
      rw [this]; rfl
theorem containsF_any (A : Option Addr) (ws : List Int) (c : Nat) (w : World) (h : Rd w w.heap.size A (ws.map (.int .u64))) (hlen : ws.length ≤ 9223372036854775807) :
    Calls Try.prog 63 #[.slice A ws.length c, .func (.func 64) #[] #[]] w fun e w' => e = .returned (.bool (ws.any heavyB)) ∧ w' = w := by
  have ix := indexF_any A ws c w h hlen
  have HI := hide ix
  clear ix h
  go_enter Try.func63, Try.ntmps63
  go_wp2_with (go_at_call 69; refine (Calls.mono HI.out ?_); rintro e w1 ⟨r, rfl, hr, hww⟩; replace hww := hww.symm; subst hww; have HR := hide hr; clear hr)
  go_ret
  exact ⟨ret_bool HR.out, rfl⟩
theorem alphabet_any (A : Option Addr) (ws : List Int) (c : Nat) (w : World) (h : Rd w w.heap.size A (ws.map (.int .u64))) (hlen : ws.length ≤ 9223372036854775807) :
    Calls Try.prog 49 #[.slice A ws.length c] w fun e w' => e = .returned (.bool (alphaB ws)) ∧ w' = w := by
  have ix := containsF_any A ws c w h hlen
  have hb : alphaB ws = (decide (ws.length ≤ 512) && !ws.any heavyB) := rfl
  generalize ws.any heavyB = b at ix hb
  have HI := hide ix
  have HB := hide hb
  clear ix h hb
  by_cases g : ws.length ≤ 512
  · have gd : decide ((ws.length : Int) ≤ 512) = true := decide_eq_true (by omega)
    go_enter Try.func49, Try.ntmps49
    go_wp2_with (go_at_call 63; refine (Calls.mono HI.out ?_); rintro e w1 ⟨rfl, hww⟩; replace hww := hww.symm; subst hww)
    go_ret
    exact ⟨ret_bool (by rw [HB.out, decide_eq_true g]; rfl), rfl⟩
  · have gd : decide ((ws.length : Int) ≤ 512) = false := decide_eq_false (by omega)
    go_enter Try.func49, Try.ntmps49
    go_wp2_with (go_at_call 63; refine (Calls.mono HI.out ?_); rintro e w1 ⟨rfl, hww⟩; replace hww := hww.symm; subst hww)
    go_ret
    exact ⟨ret_bool (by rw [HB.out, decide_eq_false g]; rfl), rfl⟩

/-- Less, alike or more. -/
def cmpI (x y : Int) : Int := if x < y then -1 else if y < x then 1 else 0
theorem cmpI_neg (x y : Int) : decide (cmpI x y < 0) = decide (x < y) := by
  unfold cmpI
  by_cases h : x < y
  · rw [if_pos h]; simp [h]
  · rw [if_neg h]
    split <;> simp [h]
theorem isNaN_any (x : Int) (w : World) : Calls Try.prog 71 #[.int .u64 x] w fun e w' => e = .returned (.bool false) ∧ w' = w := by
  go_enter Try.func71, Try.ntmps71
  go_wp2
  go_ret
  exact ⟨by first | rfl | (simp; done), rfl⟩
theorem compare_any (x y : Int) (w : World) : Calls Try.prog 67 #[.int .u64 x, .int .u64 y] w fun e w' => e = .returned (.int .i64 (cmpI x y)) ∧ w' = w := by
  have nan := fun (z : Int) (W : World) => isNaN_any z W
  have HN := hide nan
  clear nan
  by_cases h : x < y
  · have e1 : cmpI x y = -1 := if_pos h
    rw [e1]
    go_enter Try.func67, Try.ntmps67
    go_wp2_with (go_at_call 71; refine (Calls.mono (HN.out _ _) ?_); rintro e w1 ⟨rfl, hww⟩; replace hww := hww.symm; subst hww)
    go_ret
    exact ⟨rfl, rfl⟩
  · by_cases h2 : y < x
    · have e1 : cmpI x y = 1 := by unfold cmpI; rw [if_neg h, if_pos h2]
      rw [e1]
      go_enter Try.func67, Try.ntmps67
      go_wp2_with (go_at_call 71; refine (Calls.mono (HN.out _ _) ?_); rintro e w1 ⟨rfl, hww⟩; replace hww := hww.symm; subst hww)
      go_ret
      exact ⟨rfl, rfl⟩
    · have e1 : cmpI x y = 0 := by unfold cmpI; rw [if_neg h, if_neg h2]
      rw [e1]
      go_enter Try.func67, Try.ntmps67
      go_wp2_with (go_at_call 71; refine (Calls.mono (HN.out _ _) ?_); rintro e w1 ⟨rfl, hww⟩; replace hww := hww.symm; subst hww)
      go_ret
      exact ⟨rfl, rfl⟩
/-- The comparison that leaves hands to the sort: B holds the weights' slice. -/
theorem lcmp_any (B : Nat) (A : Option Addr) (ws : List Int) (c x y : Nat) (w : World) (hB : w.cell? ⟨B, 0, none⟩ = some (.slice A ws.length c)) (h : Rd w w.heap.size A (ws.map (.int .u64))) (hx : x < ws.length) (hy : y < ws.length) :
    Calls Try.prog 66 #[.int .i64 x, .int .i64 y, .pointer (some ⟨B, 0, none⟩)] w fun e w' => e = .returned (.int .i64 (cmpI (ws.getD x 0) (ws.getD y 0))) ∧ ∃ j, w' = w.drewN j := by
  obtain ⟨b, o, u, hA, hb, hu, hc⟩ := h.int hx
  obtain ⟨b2, o2, v, hA2, hb2, hv, hc2⟩ := h.int hy
  subst hA
  simp only [Option.some.injEq, Addr.mk.injEq, and_true] at hA2
  obtain ⟨rfl, rfl⟩ := hA2
  have e1 : ws.getD x 0 = u := by rw [List.getD_eq_getElem?_getD, hu]; rfl
  have e2 : ws.getD y 0 = v := by rw [List.getD_eq_getElem?_getD, hv]; rfl
  rw [e1, e2]
  have cp := fun (W : World) => compare_any u v W
  have HC := hide cp
  clear cp h hu hv e1 e2
  go_enter Try.func66, Try.ntmps66
  go_wp2_with fail
  go_quiet ((go_at_call 67; exact Calls.quiet_of_same (HC.out _)))
  go_wp2_with fail
  go_ret
  exact ⟨rfl, _, rfl⟩
#print axioms lcmp_any
end Go.Proofs.Ytggffiikfelbjaa
