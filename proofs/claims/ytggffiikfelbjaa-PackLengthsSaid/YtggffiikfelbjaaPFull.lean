/- The law PackFull: plainly, and its walk. -/
import Derived.Test.YtggffiikfelbjaaLives20
namespace Go.Proofs.Ytggffiikfelbjaa
open Go.RowKit

theorem usedL_SS (L : Nat) (ls : List Int) : usedL L ls = SS (fun s => if 0 < ls.getD s 0 then 2 ^ (L - (ls.getD s 0).toNat) else 0) ls.length := by
  have key : ∀ k, k ≤ ls.length → usedL L (ls.take k) = SS (fun s => if 0 < ls.getD s 0 then 2 ^ (L - (ls.getD s 0).toNat) else 0) k := by
    intro k
    induction k with
    | zero => intro _; simp [usedL, SS]
    | succ k ih =>
      intro hk
      have hx : ls[k]? = some ls[k] := by simp [show k < ls.length by omega]
      rw [usedL_step hx, ih (by omega), SS, List.getD_eq_getElem?_getD, hx]; rfl
  have := key ls.length (Nat.le_refl _)
  rwa [List.take_of_length_le (Nat.le_refl _)] at this
/-- The lengths as ints. -/
def packI (ws : List Int) (L : Nat) : List Int := (packL ws L).map Int.ofNat
theorem packI_length (ws : List Int) (L : Nat) : (packI ws L).length = ws.length := by unfold packI; rw [List.length_map, packL_length]
theorem packI_get (ws : List Int) (L s : Nat) : (packI ws L).getD s 0 = ((packL ws L).getD s 0 : Nat) := by
  unfold packI
  rw [List.getD_eq_getElem?_getD, List.getElem?_map, List.getD_eq_getElem?_getD]
  cases (packL ws L)[s]? <;> rfl
section
variable {ws : List Int} {L : Nat} {q : Nat → Nat}
theorem PackOK.le (h : PackOK ws L q) (s : Nat) : (packL ws L).getD s 0 ≤ L := by
  by_cases hs : s < ws.length
  · by_cases hp : 0 < ws.getD s 0
    · obtain ⟨i, hi, e⟩ := ord_has hs hp
      rw [← e, h.at_ i hi]; exact (h.pos i hi).2
    · rw [h.out s hp]; omega
  · rw [List.getD_eq_getElem?_getD, List.getElem?_eq_none (by rw [packL_length]; omega)]; exact Nat.zero_le _
theorem PackOK.has (h : PackOK ws L q) {s : Nat} (hs : s < ws.length) : 0 < ws.getD s 0 ↔ 0 < (packL ws L).getD s 0 := by
  by_cases hp : 0 < ws.getD s 0
  · obtain ⟨i, hi, e⟩ := ord_has hs hp
    have := (h.pos i hi).1
    rw [← h.at_ i hi, e] at this
    exact ⟨fun _ => this, fun _ => hp⟩
  · rw [h.out s hp]
    exact ⟨fun h => absurd h hp, fun h => by omega⟩
theorem PackOK.room (h : PackOK ws L q) (h1 : 1 ≤ L) (h15 : L ≤ 15) (h512 : ws.length ≤ 512) : roomW (packI ws L) L = 0 := by
  unfold roomW
  rw [if_neg (by rw [packI_length]; omega), if_neg]
  intro hb
  obtain ⟨x, hx, hbad⟩ := List.any_eq_true.1 hb
  obtain ⟨s, hs, rfl⟩ := List.getElem_of_mem hx
  have e : (packI ws L)[s] = ((packL ws L).getD s 0 : Nat) := by
    rw [← packI_get, List.getD_eq_getElem?_getD, List.getElem?_eq_getElem hs]; rfl
  have := h.le s
  rw [e] at hbad
  unfold badL at hbad
  simp only [Bool.or_eq_true, decide_eq_true_eq] at hbad
  omega
theorem PackOK.used (h : PackOK ws L q) : usedL L (packI ws L) = SS (fun i => 2 ^ (L - q i)) (ordL ws).length := by
  rw [usedL_SS, packI_length, sum_ord ws]
  have e2 : SS (fun s => if 0 < ws.getD s 0 then 0 else if 0 < (packI ws L).getD s 0 then 2 ^ (L - ((packI ws L).getD s 0).toNat) else 0) ws.length = 0 := by
    rw [SS_congr (g := fun _ => 0) (fun s hs => ?_), SS_zero]
    by_cases hp : 0 < ws.getD s 0
    · rw [if_pos hp]
    · rw [if_neg hp, packI_get, h.out s hp]; rfl
  rw [e2, Nat.add_zero]
  refine SS_congr fun i hi => ?_
  have hp := (h.pos i hi).1
  rw [packI_get, h.at_ i hi, if_pos (by omega)]; rfl
theorem PackOK.left (h : PackOK ws L q) (h1 : 1 ≤ L) (h15 : L ≤ 15) (h512 : ws.length ≤ 512) (h2 : 2 ≤ (ordL ws).length) : roomN (packI ws L) L = 0 := by
  unfold roomN
  rw [if_pos (h.room h1 h15 h512), Int.toNat_natCast, h.used, h.full h2]; omega
end
/-- Where Lengths answers. -/
theorem packW_zero {ws : List Int} {lim : Int} (h : packW ws lim = 0) : alphaB ws = true ∧ ∃ L : Nat, lim = L ∧ 1 ≤ L ∧ L ≤ 15 ∧ (ordL ws).length ≤ 2 ^ L := by
  unfold packW at h
  split at h
  · rename_i g
    split at h
    · cases h
    · rename_i g2
      obtain ⟨L, rfl⟩ := Int.eq_ofNat_of_zero_le (show 0 ≤ lim by omega)
      rw [Int.toNat_natCast] at g2
      exact ⟨g.1, L, rfl, by omega, by omega, by omega⟩
  · cases h
theorem packW_kinds (ws : List Int) (lim : Int) : packW ws lim = 0 ∨ packW ws lim ≠ 0 := by omega

set_option maxRecDepth 100000 in
set_option maxHeartbeats 4000000 in
theorem packFull_any (A : Option Addr) (ws : List Int) (ca : Nat) (lim : Int) (w : World) (hA : Rd w w.heap.size A (ws.map (.int .u64))) (hla : ws.length ≤ 9223372036854775807) (hws : ∀ x ∈ ws, U64 x) (hlim : I64 lim) :
    Calls Try.prog 8 #[.slice A ws.length ca, .int .i64 lim] w fun e w' => e = .returned (.bool true) ∧ Below w.heap.size w w' := by
  have HA := hide hA
  have hws0 : ∀ x ∈ ws, 0 ≤ x := fun x hx => (hws x hx).1
  by_cases h0 : packW ws lim = 0
  · obtain ⟨ha, L, rfl, h1, h15, h2⟩ := packW_zero h0
    obtain ⟨h512, _⟩ := alphaB_at ha
    obtain ⟨q, ok⟩ := packOK ws h1 h2
    have ln := fun (W : World) (hb : Below w.heap.size w W) => lengths_yes A ws ca L W ((HA.out.below hb).more hb.size) hla hws0 hlim h0
    have hroom := ok.room h1 h15 h512
    have rm := fun (A' : Option Addr) (c : Nat) (W : World) (hr : Rd W W.heap.size A' ((packI ws L).map (.int .i64))) => room_any A' (packI ws L) c L W hr (by rw [packI_length]; omega) hlim
    obtain ⟨R, hR⟩ : ∃ R, R = roomN (packI ws L) L := ⟨_, rfl⟩
    obtain ⟨N, hN⟩ : ∃ N, N = (ordL ws).length := ⟨_, rfl⟩
    have hR0 : N < 2 ∨ R = 0 := by
      rcases Nat.lt_or_ge N 2 with h | h
      · exact .inl h
      · exact .inr (by rw [hR]; exact ok.left h1 h15 h512 (by omega))
    have hsy : (symK ws ws.length).length = N := by rw [hN, (ordL_perm ws).length_eq]; rfl
    unfold RoomP at rm
    rw [hroom, ← hR, packI_length] at rm
    rw [Int.toNat_natCast] at ln
    have HLn := hide ln
    have HRm := hide rm
    have HOk := hide ok
    have HSy := hide hsy
    have HWs := hide hws0
    have hll : ((packI ws L).length : Int) = (ws.length : Int) := by rw [packI_length]
    clear ln rm hroom hR hN hsy ha h0 h2 ok hA hws hws0 hll
    go_enter Try.func8, Try.ntmps8
    go_wp2_with (first | (go_at_call 25; refine (Calls.mono (lives20 w) ?_); rintro e w1 ⟨rfl, hb1⟩) | (go_at_call 26; refine (Calls.mono (HLn.out _ hb1) ?_); rintro e w2 ⟨⟨A2, c2, rfl, hr2, _⟩, hb2⟩; have hb2 := hb1.trans (hb2.mono hb1.size); have HR2 := hide hr2; clear hr2) | (go_at_call 30; refine (Calls.mono (HRm.out A2 c2 w2 HR2.out) ?_); rintro e w3 ⟨rfl, hww⟩; replace hww := hww.symm; subst hww))
    have HB2 := hide hb2
    go_loopw [9, 38] (fun vl vi wr => ∃ k K : Nat, k ≤ ws.length ∧ vi = .int .i64 k ∧ vl = .int .i64 K ∧ Hid (K = (symK ws k).length) ∧ K ≤ k ∧ w2 = wr) (fun _ i _ => ws.length - (intOf i).toNat)
    case atStart => exact ⟨0, 0, by omega, rfl, rfl, hide (by simp [symK]), by omega, rfl⟩
    case round =>
      obtain ⟨k, K, hk, rfl, rfl, hK, hKk, rfl⟩ := hrel
      by_cases hlt : k < ws.length
      · obtain ⟨b, o, x, hAe, hb, hx, hcx0⟩ := HA.out.int hlt
        obtain ⟨b2, o2, y, hAe2, hb2', hy, hcy⟩ := Rd.int (zs := packI ws L) HR2.out (show k < (packI ws L).length by rw [packI_length]; exact hlt)
        subst hAe hAe2
        have hcx := (HB2.out.cell (p := ⟨b, o + k, none⟩) hb).trans hcx0
        have hx2 : ws.getD k 0 = x := by rw [List.getD_eq_getElem?_getD, hx]; rfl
        have hy2 : (packI ws L).getD k 0 = y := by rw [List.getD_eq_getElem?_getD, hy]; rfl
        have hiff : 0 < x ↔ 0 < y := by
          rw [← hx2, HOk.out.has hlt, ← hy2, packI_get]; omega
        have hst := symK_step ws k
        rw [hx2] at hst
        have HSt := hide hst
        have hxy : (decide (0 < x) != decide (0 < y)) = false := by
          by_cases e : 0 < x
          · rw [decide_eq_true e, decide_eq_true (hiff.1 e)]; rfl
          · rw [decide_eq_false e, decide_eq_false (fun h => e (hiff.2 h))]; rfl
        clear hx hy hx2 hy2 hst hcx0
        by_cases hp : 0 < x
        · have dp : decide (0 < x) = true := decide_eq_true hp
          have dq : decide (0 < y) = true := decide_eq_true (hiff.1 hp)
          clear hiff hxy
          go_wp2_with fail
          go_roundw
          case rel => exact ⟨k + 1, K + 1, by omega, by go_num, by go_num, hide (by rw [HSt.out, if_pos hp, List.length_append, hK.out]; rfl), by omega, by first | rfl | trivial⟩
          case measure => simp [intOf]; omega
        · have dp : decide (0 < x) = false := decide_eq_false hp
          have dq : decide (0 < y) = false := decide_eq_false (fun h => hp (hiff.2 h))
          clear hiff hxy
          go_wp2_with fail
          go_roundw
          case rel => exact ⟨k + 1, K, by omega, by go_num, by first | rfl | go_num, hide (by rw [HSt.out, if_neg hp, List.append_nil, hK.out]), by omega, by first | rfl | trivial⟩
          case measure => simp [intOf]; omega
      · obtain rfl : k = ws.length := by omega
        have hKN : K = N := by rw [hK.out, HSy.out]
        subst hKN
        rcases hR0 with h | h
        · have dN : decide ((K : Int) < 2) = true := decide_eq_true (by omega)
          go_wp2_with fail
          go_ret
          exact ⟨rfl, HB2.out⟩
        · subst h
          by_cases h : K < 2
          · have dN : decide ((K : Int) < 2) = true := decide_eq_true (by omega)
            go_wp2_with fail
            go_ret
            exact ⟨rfl, HB2.out⟩
          · have dN : decide ((K : Int) < 2) = false := decide_eq_false (by omega)
            go_wp2_with fail
            go_ret
            exact ⟨rfl, HB2.out⟩
  · obtain ⟨v, hv⟩ : ∃ v, v = packW ws lim := ⟨_, rfl⟩
    have ln := fun (W : World) (hb : Below w.heap.size w W) => lengths_no A ws ca lim W ((HA.out.below hb).more hb.size) hla hws0 hlim hv.symm (by rw [hv]; exact h0)
    have hvb : (v != 0) = true := by rw [hv]; simpa using h0
    have HLn := hide ln
    clear ln hv h0 hA hws hws0
    go_enter Try.func8, Try.ntmps8
    go_wp2_with (first | (go_at_call 25; refine (Calls.mono (lives20 w) ?_); rintro e w1 ⟨rfl, hb1⟩) | (go_at_call 26; refine (Calls.mono (HLn.out _ hb1) ?_); rintro e w2 ⟨rfl, hb2⟩; have hb2 := hb1.trans (hb2.mono hb1.size)))
    go_ret
    exact ⟨rfl, hb2⟩
#print axioms packFull_any
end Go.Proofs.Ytggffiikfelbjaa
