/- The law PackOrder: plainly, and its walk. -/
import Derived.Test.YtggffiikfelbjaaPLeast
namespace Go.Proofs.Ytggffiikfelbjaa
open Go.RowKit

section
variable {ws : List Int} {L : Nat} {q : Nat → Nat}
/-- Who weighs more has no longer code. -/
theorem PackOK.order (h : PackOK ws L q) {i k : Nat} (hi : i < ws.length) (hk : k < ws.length) (h0 : 0 < ws.getD k 0) (hlt : ws.getD k 0 < ws.getD i 0) : (packL ws L).getD i 0 ≤ (packL ws L).getD k 0 := by
  obtain ⟨a, ha, rfl⟩ := ord_has hi (by omega)
  obtain ⟨b, hb, rfl⟩ := ord_has hk h0
  rw [h.at_ a ha, h.at_ b hb]
  refine h.fall b a ?_ ha
  refine Nat.le_of_not_lt fun hab => ?_
  have e1 : (ordL ws)[a]? = some ((ordL ws).getD a 0) := by rw [List.getD_eq_getElem?_getD, List.getElem?_eq_getElem ha]; rfl
  have e2 : (ordL ws)[b]? = some ((ordL ws).getD b 0) := by rw [List.getD_eq_getElem?_getD, List.getElem?_eq_getElem hb]; rfl
  have := sorted_at (ordL_sorted ws) e1 e2 hab
  unfold Lx at this
  omega
theorem PackOK.used_le (h : PackOK ws L q) : SS (fun i => 2 ^ (L - q i)) (ordL ws).length ≤ 2 ^ L := by
  rcases (show (ordL ws).length = 0 ∨ (ordL ws).length = 1 ∨ 2 ≤ (ordL ws).length by omega) with g | g | g
  · rw [g]; exact Nat.zero_le _
  · rw [g]
    show 0 + 2 ^ (L - q 0) ≤ 2 ^ L
    rw [Nat.zero_add]
    exact Nat.pow_le_pow_right (by omega) (by omega)
  · rw [h.full g]; exact Nat.le_refl _
/-- A wider limit costs no more. -/
theorem PackOK.wider (h : PackOK ws L q) (ha : alphaB ws = true) (h15 : L < 15) (h1 : 1 ≤ L) (h2 : (ordL ws).length ≤ 2 ^ L) (hws : ∀ x ∈ ws, 0 ≤ x) : costN ws (packI ws (L + 1)) ≤ costN ws (packI ws L) := by
  have h2' : (ordL ws).length ≤ 2 ^ (L + 1) := by rw [Nat.pow_succ]; omega
  obtain ⟨q2, ok2⟩ := packOK ws (L := L + 1) (by omega) h2'
  obtain ⟨h512, _⟩ := alphaB_at ha
  have hr : roomW (packI ws L) ((L + 1 : Nat) : Int) = 0 := by
    have h0 := h.room h1 (by omega) h512
    unfold roomW at h0 ⊢
    rw [if_neg (by rw [packI_length]; omega), if_neg]
    rw [if_neg (by rw [packI_length]; omega)] at h0
    intro hb
    obtain ⟨x, hx, hbad⟩ := List.any_eq_true.1 hb
    have : ¬ (packI ws L).any (badL L) = true := fun hc => by rw [if_pos hc] at h0; cases h0
    refine this (List.any_eq_true.2 ⟨x, hx, ?_⟩)
    unfold badL at hbad ⊢
    simp only [Bool.or_eq_true, decide_eq_true_eq] at hbad ⊢
    omega
  have hu : usedL (L + 1) (packI ws L) = 2 * usedL L (packI ws L) := by
    rw [usedL_SS, usedL_SS, ← SS_mul]
    refine SS_congr fun s _ => ?_
    have := h.le s
    rw [packI_get]
    by_cases e : (0 : Int) < ((packL ws L).getD s 0 : Nat)
    · rw [if_pos e, if_pos e, Int.toNat_natCast, show L + 1 - (packL ws L).getD s 0 = (L - (packL ws L).getD s 0) + 1 by omega, Nat.pow_succ]; omega
    · rw [if_neg e, if_neg e]
  refine ok2.leastI ha (by omega) hws (h.costW ha (by omega)) hr ?_
  unfold roomN
  rw [if_pos hr, Int.toNat_natCast, hu, h.used, Nat.pow_succ]
  have := h.used_le
  omega
end
theorem packI_range {ws : List Int} {L : Nat} {q : Nat → Nat} (ok : PackOK ws L q) (h15 : L ≤ 15) : ∀ x ∈ packI ws L, I64 x := fun x hx => by
  obtain ⟨s, hs, rfl⟩ := List.getElem_of_mem hx
  have e : (packI ws L)[s] = ((packL ws L).getD s 0 : Nat) := by rw [← packI_get, List.getD_eq_getElem?_getD, List.getElem?_eq_getElem hs]; rfl
  have := ok.le s
  rw [e]; exact ⟨by omega, by omega⟩

set_option maxRecDepth 100000 in
set_option maxHeartbeats 4000000 in
theorem packOrder_any (A : Option Addr) (ws : List Int) (ca : Nat) (lim : Int) (w : World) (hA : Rd w w.heap.size A (ws.map (.int .u64))) (hla : ws.length ≤ 9223372036854775807) (hws : ∀ x ∈ ws, U64 x) (hlim : I64 lim) :
    Calls Try.prog 10 #[.slice A ws.length ca, .int .i64 lim] w fun e w' => e = .returned (.bool true) ∧ Below w.heap.size w w' := by
  have HA := hide hA
  have hws0 : ∀ x ∈ ws, 0 ≤ x := fun x hx => (hws x hx).1
  by_cases h0 : packW ws lim = 0
  · obtain ⟨ha, L, rfl, h1, h15, h2⟩ := packW_zero h0
    obtain ⟨q, ok⟩ := packOK ws h1 h2
    have ln := fun (W : World) (hb : Below w.heap.size w W) => lengths_yes A ws ca L W ((HA.out.below hb).more hb.size) hla hws0 hlim h0
    rw [Int.toNat_natCast] at ln
    have HLn := hide ln
    have HOk := hide ok
    have cp := fun (A' : Option Addr) (c : Nat) (W : World) (hb : Below w.heap.size w W) (hr : Rd W W.heap.size A' ((packI ws L).map (.int .i64))) => cost_any A A' ws (packI ws L) ca c W ((HA.out.below hb).more hb.size) hr hla (by rw [packI_length]; exact hla) hws0 (packI_range ok h15)
    unfold CostP at cp
    rw [ok.costW ha h15, packI_length] at cp
    obtain ⟨pn, hpn⟩ : ∃ r, r = costN ws (packI ws L) := ⟨_, rfl⟩
    rw [← hpn] at cp
    have HCp := hide cp
    have HPn := hide hpn
    have HHa := hide (And.intro ha (And.intro h2 hws0))
    clear ln cp hpn ok h0 ha h2 hA hws hws0
    have HX : Hid (L < 15 → Hid (∀ W, Below w.heap.size w W → Calls Try.prog 26 #[.slice A ws.length ca, .int .i64 ((L : Int) + 1)] W fun e w' => (∃ A' c, e = .returned (.tuple #[.slice A' ws.length c, .int .i64 0]) ∧ Rd w' w'.heap.size A' (((packL ws (L + 1)).map Int.ofNat).map (.int .i64)) ∧ ∀ a, A' = some a → W.heap.size ≤ a.block) ∧ Below W.heap.size W w') ∧
        ∃ mn : Int, mn ≤ pn ∧ Hid (∀ (A' : Option Addr) (c : Nat) (W : World), Below w.heap.size w W → Rd W W.heap.size A' ((packI ws (L + 1)).map (.int .i64)) → Calls Try.prog 28 #[.slice A ws.length ca, .slice A' ws.length c] W fun e w' => e = .returned (.tuple #[.int .u64 mn, .int .i64 0]) ∧ w' = W)) := hide (by
      intro hL
      obtain ⟨ha, h2, hws0⟩ := HHa.out
      have h2' : (ordL ws).length ≤ 2 ^ (L + 1) := by rw [Nat.pow_succ]; omega
      obtain ⟨q2, ok2⟩ := packOK ws (L := L + 1) (by omega) h2'
      have hW2 : packW ws ((L : Int) + 1) = 0 := by
        unfold packW
        rw [if_pos ⟨ha, by omega, by omega⟩, show ((L : Int) + 1).toNat = L + 1 by omega, if_neg (by omega)]
      refine ⟨hide fun W hb => ?_, costN ws (packI ws (L + 1)), ?_, hide fun A' c W hb hr => ?_⟩
      · have := lengths_yes A ws ca ((L : Int) + 1) W ((HA.out.below hb).more hb.size) hla hws0 ⟨by omega, by omega⟩ hW2
        rwa [show ((L : Int) + 1).toNat = L + 1 by omega] at this
      · rw [HPn.out]; exact HOk.out.wider ha hL h1 h2 hws0
      · have := cost_any A A' ws (packI ws (L + 1)) ca c W ((HA.out.below hb).more hb.size) hr hla (by rw [packI_length]; exact hla) hws0 (packI_range ok2 (by omega))
        unfold CostP at this
        rwa [ok2.costW ha (by omega), packI_length] at this)
    go_enter Try.func10, Try.ntmps10
    go_wp2_with (first | (go_at_call 25; refine (Calls.mono (lives20 w) ?_); rintro e w1 ⟨rfl, hb1⟩) | (go_at_call 26; refine (Calls.mono (HLn.out _ hb1) ?_); rintro e w2 ⟨⟨A2, c2, rfl, hr2, _⟩, hb2⟩; have hb2 := hb1.trans (hb2.mono hb1.size); have HR2 := hide hr2; have HB2 := hide hb2; clear hr2 hb2))
    go_loopw [36] (fun vi wr => ∃ (i n : Nat), i ≤ ws.length ∧ vi = .int .i64 i ∧ wr = w2.drewN n) (fun i _ => ws.length - (intOf i).toNat)
    case atStart => exact ⟨0, 0, by omega, rfl, rfl⟩
    case round =>
      obtain ⟨i, n, hi, rfl, rfl⟩ := hrel
      by_cases hil : i < ws.length
      · obtain ⟨b, o, x, hAe, hb, hx, hcx0⟩ := HA.out.int hil
        obtain ⟨b2, o2, y, hAe2, hb2', hy, hcy⟩ := Rd.int (zs := packI ws L) HR2.out (show i < (packI ws L).length by rw [packI_length]; exact hil)
        subst hAe hAe2
        have hcx := (HB2.out.cell (p := ⟨b, o + i, none⟩) hb).trans hcx0
        have hx2 : ws.getD i 0 = x := by rw [List.getD_eq_getElem?_getD, hx]; rfl
        have hy2 : (packI ws L).getD i 0 = y := by rw [List.getD_eq_getElem?_getD, hy]; rfl
        have HXY := hide (And.intro hx2 hy2)
        clear hx hy hcx0 hx2 hy2
        go_wp2_with fail
        go_loopw [41] (fun vk wr => ∃ (k n : Nat), k ≤ ws.length ∧ vk = .int .i64 k ∧ wr = w2.drewN n) (fun k _ => ws.length - (intOf k).toNat)
        case atStart => exact ⟨0, n, by omega, rfl, rfl⟩
        case round =>
          obtain ⟨k, n, hk, rfl, rfl⟩ := hrel
          by_cases hkl : k < ws.length
          · obtain ⟨b', o', x', hAe, hb', hx, hcx0⟩ := HA.out.int hkl
            obtain ⟨b2', o2', y', hAe2, hb2'', hy, hcy'⟩ := Rd.int (zs := packI ws L) HR2.out (show k < (packI ws L).length by rw [packI_length]; exact hkl)
            simp only [Option.some.injEq, Addr.mk.injEq, and_true] at hAe hAe2
            obtain ⟨rfl, rfl⟩ := hAe
            obtain ⟨rfl, rfl⟩ := hAe2
            have hcx' := (HB2.out.cell (p := ⟨b, o + k, none⟩) hb).trans hcx0
            have hx2 : ws.getD k 0 = x' := by rw [List.getD_eq_getElem?_getD, hx]; rfl
            have hy2 : (packI ws L).getD k 0 = y' := by rw [List.getD_eq_getElem?_getD, hy]; rfl
            have hord : 0 < x' → x' < x → y ≤ y' := fun h0 h1 => by
              have := HOk.out.order hil hkl (by rw [hx2]; exact h0) (by rw [hx2, HXY.out.1]; exact h1)
              have e1 := HXY.out.2
              rw [packI_get] at e1 hy2
              omega
            clear hx hy hcx0 hx2 hy2
            by_cases g1 : 0 < x'
            · have d1 : decide (0 < x') = true := decide_eq_true g1
              by_cases g2 : x' < x
              · have d2 : decide (x' < x) = true := decide_eq_true g2
                have d3 : decide (y' < y) = false := decide_eq_false (by have := hord g1 g2; omega)
                clear hord
                go_wp2_with fail
                go_quiet (fail)
                go_wp2_with fail
                go_roundw
                case rel => exact ⟨k + 1, _, by omega, by go_num, rfl⟩
                case measure => simp [intOf]; omega
              · have d2 : decide (x' < x) = false := decide_eq_false g2
                clear hord
                go_wp2_with fail
                go_quiet (fail)
                go_wp2_with fail
                go_roundw
                case rel => exact ⟨k + 1, _, by omega, by go_num, rfl⟩
                case measure => simp [intOf]; omega
            · have d1 : decide (0 < x') = false := decide_eq_false g1
              clear hord
              go_wp2_with fail
              go_quiet (fail)
              go_wp2_with fail
              go_roundw
              case rel => exact ⟨k + 1, _, by omega, by go_num, rfl⟩
              case measure => simp [intOf]; omega
          · go_wp2_with fail
            go_roundw
            case rel => exact ⟨i + 1, n, by omega, by go_num, rfl⟩
            case measure => simp [intOf]; omega
      · by_cases hL : L < 15
        · obtain ⟨HLm, mn, hmn, HCm⟩ := HX.out hL
          have dL : decide ((15 : Int) ≤ (L : Int)) = false := decide_eq_false (by omega)
          have dm : decide (mn ≤ pn) = true := decide_eq_true hmn
          have hB3 := below_drewN HB2.out n
          have HR3 : Hid (Rd (w2.drewN n) (w2.drewN n).heap.size A2 ((packI ws L).map (.int .i64))) := HR2.out.drewN n
          obtain ⟨W3, hW3⟩ : ∃ W3, W3 = w2.drewN n := ⟨_, rfl⟩
          rw [← hW3] at hB3 HR3 ⊢
          clear hW3 HLn HX
          go_wp2_with (first | (go_at_call 26; refine (Calls.mono (HLm.out _ hB3) ?_); rintro e w4 ⟨⟨A4, c4, rfl, hr4, _⟩, hb4⟩; have HR4 := hide hr4; have hB4 := hB3.trans (hb4.mono hB3.size); have HR34 := hide ((HR3.out.below hb4).more hb4.size); clear hr4 hb4) | (go_at_call 28; have tok := HCp; clear HCp; refine (Calls.mono (tok.out A2 c2 w4 hB4 HR34.out) ?_); rintro e w5 ⟨rfl, hww⟩; replace hww := hww.symm; subst hww) | (go_at_call 28; refine (Calls.mono (HCm.out A4 c4 w4 hB4 HR4.out) ?_); rintro e w5 ⟨rfl, hww⟩; replace hww := hww.symm; subst hww))
          go_ret
          exact ⟨rfl, hB4⟩
        · have dL : decide ((15 : Int) ≤ (L : Int)) = true := decide_eq_true (by omega)
          go_wp2_with fail
          go_ret
          exact ⟨rfl, below_drewN HB2.out n⟩
  · obtain ⟨v, hv⟩ : ∃ v, v = packW ws lim := ⟨_, rfl⟩
    have ln := fun (W : World) (hb : Below w.heap.size w W) => lengths_no A ws ca lim W ((HA.out.below hb).more hb.size) hla hws0 hlim hv.symm (by rw [hv]; exact h0)
    have hvb : (v != 0) = true := by rw [hv]; simpa using h0
    have HLn := hide ln
    clear ln hv h0 hA hws hws0
    go_enter Try.func10, Try.ntmps10
    go_wp2_with (first | (go_at_call 25; refine (Calls.mono (lives20 w) ?_); rintro e w1 ⟨rfl, hb1⟩) | (go_at_call 26; refine (Calls.mono (HLn.out _ hb1) ?_); rintro e w2 ⟨rfl, hb2⟩; have hb2 := hb1.trans (hb2.mono hb1.size)))
    go_ret
    exact ⟨rfl, hb2⟩
#print axioms packOrder_any
end Go.Proofs.Ytggffiikfelbjaa
