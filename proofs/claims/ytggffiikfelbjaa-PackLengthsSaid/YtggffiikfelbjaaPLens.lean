/- Walk: wringerlaw20.PackLengths answers true. -/
import Derived.Test.YtggffiikfelbjaaRefLen
import Derived.Test.YtggffiikfelbjaaPFull
namespace Go.Proofs.Ytggffiikfelbjaa
open Go.RowKit

/-- What Lengths answers, as one list. -/
def lensA (ws : List Int) (lim : Int) : List Int := if packW ws lim = 0 then packI ws lim.toNat else []
theorem lenP_uni {ws : List Int} {lim : Int} {w : World} {e : Ending} {w' : World} (h : LenP ws lim w e w') : ∃ A c, e = .returned (.tuple #[.slice A (lensA ws lim).length c, .int .i64 (packW ws lim)]) ∧ Rd w' w'.heap.size A ((lensA ws lim).map (.int .i64)) ∧ Below w.heap.size w w' := by
  obtain ⟨hb, ⟨h0, A, c, rfl, hr, _⟩ | ⟨h0, rfl⟩⟩ := h
  · have e : lensA ws lim = packI ws lim.toNat := if_pos h0
    rw [e, packI_length, h0]
    refine ⟨A, c, rfl, ?_, hb⟩
    unfold packI
    rw [List.map_map]; exact hr
  · have e : lensA ws lim = [] := if_neg h0
    rw [e]
    exact ⟨none, 0, rfl, Rd.nil_, hb⟩

theorem same_self (A B : Option Addr) (a : List Int) (ca cb : Nat) (w : World) (ha : Rd w w.heap.size A (a.map (.int .i64))) (hb : Rd w w.heap.size B (a.map (.int .i64))) (la : a.length ≤ 9223372036854775807) :
    Calls Try.prog 32 #[.slice A a.length ca, .slice B a.length cb] w fun e w' => e = .returned (.bool true) ∧ Below w.heap.size w w' := by
  refine Calls.mono (sameNumbers_any A B a a ca cb w ha hb la la) ?_
  rintro e w' ⟨rfl, j, rfl⟩
  exact ⟨by rw [decide_eq_true rfl], below_drewN (Below.refl _ _) j⟩
set_option maxRecDepth 100000 in
set_option maxHeartbeats 4000000 in
theorem packLengths_any (A O : Option Addr) (ws ls : List Int) (ca co : Nat) (lim : Int) (w : World) (hA : Rd w w.heap.size A (ws.map (.int .u64))) (hla : ws.length ≤ 9223372036854775807) (hO : Rd w w.heap.size O (ls.map (.int .i64))) (hlo : ls.length ≤ 9223372036854775807) (hws : ∀ x ∈ ws, U64 x) (hls : ∀ x ∈ ls, I64 x) (hlim : I64 lim) :
    Calls Try.prog 7 #[.slice A ws.length ca, .int .i64 lim, .slice O ls.length co] w fun e w' => e = .returned (.bool true) ∧ Below w.heap.size w w' := by
  have HA := hide hA
  have HO := hide hO
  have hws0 : ∀ x ∈ ws, 0 ≤ x := fun x hx => (hws x hx).1
  by_cases h40 : 40 < ws.length ∧ ws.length ≤ 512
  · obtain ⟨h1, h2⟩ := h40
    have d1 : decide ((40 : Int) < (ws.length : Int)) = true := decide_eq_true (by omega)
    have d2 : decide ((ws.length : Int) ≤ 512) = true := decide_eq_true (by omega)
    clear hA hO hws hls hws0
    go_enter Try.func7, Try.ntmps7
    go_wp2_with (go_at_call 25; refine (Calls.mono (lives20 w) ?_); rintro e w1 ⟨rfl, hb1⟩)
    go_ret
    exact ⟨rfl, hb1⟩
  · have l1 := fun (W : World) (hb : Below w.heap.size w W) => Calls.mono (lengths_any A ws ca lim W ((HA.out.below hb).more hb.size) hla hws0 hlim) (fun e w' h => lenP_uni h)
    have l2 := fun (W : World) (hb : Below w.heap.size w W) => Calls.mono (refLengths_any A ws ca lim W ((HA.out.below hb).more hb.size) hla hws0 hlim (by omega)) (fun e w' h => lenP_uni h)
    have cs := fun (W : World) (hb : Below w.heap.size w W) => cost_any A O ws ls ca co W ((HA.out.below hb).more hb.size) ((HO.out.below hb).more hb.size) hla hlo hws0 hls
    have cs2 := fun (W : World) (hb : Below w.heap.size w W) => refCost_any A O ws ls ca co W ((HA.out.below hb).more hb.size) ((HO.out.below hb).more hb.size) hla hlo hws0 hls
    have ro := fun (W : World) (hb : Below w.heap.size w W) => room_any O ls co lim W ((HO.out.below hb).more hb.size) hlo hlim
    have ro2 := fun (W : World) (hb : Below w.heap.size w W) => refRoom_any O ls co lim W ((HO.out.below hb).more hb.size) hlo hlim
    unfold RoomP at ro ro2
    unfold CostP at cs cs2
    obtain ⟨rw_, hrw⟩ : ∃ r, r = roomW ls lim := ⟨_, rfl⟩
    obtain ⟨rn, hrn⟩ : ∃ r, r = roomN ls lim := ⟨_, rfl⟩
    obtain ⟨cw, hcw⟩ : ∃ r, r = costW ws ls := ⟨_, rfl⟩
    obtain ⟨cn, hcn⟩ : ∃ r, r = costN ws ls := ⟨_, rfl⟩
    obtain ⟨pw, hpw⟩ : ∃ r, r = packW ws lim := ⟨_, rfl⟩
    obtain ⟨pl, hpl⟩ : ∃ r, r = lensA ws lim := ⟨_, rfl⟩
    rw [← hrw, ← hrn] at ro ro2
    rw [← hcw, ← hcn] at cs cs2
    rw [← hpw, ← hpl] at l1 l2
    have hplb : pl.length ≤ 9223372036854775807 := by
      rw [hpl]; unfold lensA
      split
      · rw [packI_length]; exact hla
      · simp
    have H1 := hide l1
    have H2 := hide l2
    have H3 := hide cs
    have H4 := hide cs2
    have H5 := hide ro
    have H6 := hide ro2
    have dg : (decide ((40 : Int) < (ws.length : Int)) && decide ((ws.length : Int) ≤ 512)) = false := by
      by_cases g : 40 < ws.length
      · rw [decide_eq_false (p := (ws.length : Int) ≤ 512) (by omega), Bool.and_false]
      · rw [decide_eq_false (p := (40 : Int) < (ws.length : Int)) (by omega), Bool.false_and]
    clear l1 l2 cs cs2 ro ro2 hrw hrn hcw hcn hpw hpl hA hO hws hls hws0
    by_cases g : 40 < ws.length
    · have d1 : decide ((40 : Int) < (ws.length : Int)) = true := decide_eq_true (by omega)
      have d2 : decide ((ws.length : Int) ≤ 512) = false := decide_eq_false (by omega)
      clear dg h40
      go_enter Try.func7, Try.ntmps7
      go_wp2_with (first
        | (go_at_call 26; refine (Calls.mono (H1.out _ (Below.refl _ w)) ?_); rintro e w1 ⟨A1, c1, rfl, hr1, hb1⟩; have HR1 := hide hr1; have z1 := hb1.size; clear hr1)
        | (go_at_call 27; refine (Calls.mono (H2.out _ hb1) ?_); rintro e w2 ⟨A2, c2, rfl, hr2, hb2⟩; have HR2 := hide hr2; have HR12 := hide ((HR1.out.below hb2).more hb2.size); have hb2 := hb1.trans (hb2.mono z1); clear hr2)
        | (go_at_call 28; refine (Calls.mono (H3.out _ hb2) ?_); rintro e w3 ⟨rfl, hww⟩; replace hww := hww.symm; subst hww)
        | (go_at_call 29; refine (Calls.mono (H4.out _ hb2) ?_); rintro e w3 ⟨rfl, hww⟩; replace hww := hww.symm; subst hww)
        | (go_at_call 30; refine (Calls.mono (H5.out _ hb2) ?_); rintro e w3 ⟨rfl, hww⟩; replace hww := hww.symm; subst hww)
        | (go_at_call 31; refine (Calls.mono (H6.out _ hb2) ?_); rintro e w3 ⟨rfl, hww⟩; replace hww := hww.symm; subst hww)
        | (go_at_call 25; refine (Calls.mono (lives20 w2) ?_); rintro e w4 ⟨rfl, hb4⟩; have HS := hide (same_self A1 A2 pl c1 c2 w4 ((HR12.out.below hb4).more hb4.size) ((HR2.out.below hb4).more hb4.size) hplb); have z2 := hb2.size; have HB4 := hide (hb2.trans (hb4.mono z2)); have z4 := HB4.out.size; clear hb4)
        | (go_at_call 32; refine (Calls.mono HS.out ?_); rintro e w5 ⟨rfl, hb5⟩; have HB5 := hide (HB4.out.trans (hb5.mono z4)); clear hb5))
      go_ret
      exact ⟨rfl, HB5.out⟩
    · have d1 : decide ((40 : Int) < (ws.length : Int)) = false := decide_eq_false (by omega)
      clear dg h40
      go_enter Try.func7, Try.ntmps7
      go_wp2_with (first
        | (go_at_call 26; refine (Calls.mono (H1.out _ (Below.refl _ w)) ?_); rintro e w1 ⟨A1, c1, rfl, hr1, hb1⟩; have HR1 := hide hr1; have z1 := hb1.size; clear hr1)
        | (go_at_call 27; refine (Calls.mono (H2.out _ hb1) ?_); rintro e w2 ⟨A2, c2, rfl, hr2, hb2⟩; have HR2 := hide hr2; have HR12 := hide ((HR1.out.below hb2).more hb2.size); have hb2 := hb1.trans (hb2.mono z1); clear hr2)
        | (go_at_call 28; refine (Calls.mono (H3.out _ hb2) ?_); rintro e w3 ⟨rfl, hww⟩; replace hww := hww.symm; subst hww)
        | (go_at_call 29; refine (Calls.mono (H4.out _ hb2) ?_); rintro e w3 ⟨rfl, hww⟩; replace hww := hww.symm; subst hww)
        | (go_at_call 30; refine (Calls.mono (H5.out _ hb2) ?_); rintro e w3 ⟨rfl, hww⟩; replace hww := hww.symm; subst hww)
        | (go_at_call 31; refine (Calls.mono (H6.out _ hb2) ?_); rintro e w3 ⟨rfl, hww⟩; replace hww := hww.symm; subst hww)
        | (go_at_call 25; refine (Calls.mono (lives20 w2) ?_); rintro e w4 ⟨rfl, hb4⟩; have HS := hide (same_self A1 A2 pl c1 c2 w4 ((HR12.out.below hb4).more hb4.size) ((HR2.out.below hb4).more hb4.size) hplb); have z2 := hb2.size; have HB4 := hide (hb2.trans (hb4.mono z2)); have z4 := HB4.out.size; clear hb4)
        | (go_at_call 32; refine (Calls.mono HS.out ?_); rintro e w5 ⟨rfl, hb5⟩; have HB5 := hide (HB4.out.trans (hb5.mono z4)); clear hb5))
      go_ret
      exact ⟨rfl, HB5.out⟩
#print axioms packLengths_any
end Go.Proofs.Ytggffiikfelbjaa
