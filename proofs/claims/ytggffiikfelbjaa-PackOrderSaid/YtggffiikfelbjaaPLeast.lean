/- The law PackLeast: plainly, and its walk. -/
import Derived.Test.YtggffiikfelbjaaPFull
namespace Go.Proofs.Ytggffiikfelbjaa
open Go.RowKit

theorem sumC_SS {ws ls : List Int} (hl : ws.length = ls.length) (h1 : ∀ x ∈ ws, 0 ≤ x) (h2 : ∀ x ∈ ls, 0 ≤ x) : sumC (ws.zip ls) = (SS (fun s => (ws.getD s 0).toNat * (ls.getD s 0).toNat) ws.length : Nat) := by
  have key : ∀ k, k ≤ ws.length → sumC ((ws.zip ls).take k) = (SS (fun s => (ws.getD s 0).toNat * (ls.getD s 0).toNat) k : Nat) := by
    intro k
    induction k with
    | zero => intro _; simp [sumC, SS]
    | succ k ih =>
      intro hk
      have hx : ws[k]? = some ws[k] := by simp [show k < ws.length by omega]
      have hy : ls[k]? = some ls[k] := by simp [show k < ls.length by omega]
      have hx0 := h1 _ (List.getElem_mem (show k < ws.length by omega))
      have hy0 := h2 _ (List.getElem_mem (show k < ls.length by omega))
      rw [sumC_step (zip_at hx hy), ih (by omega), SS, List.getD_eq_getElem?_getD, List.getD_eq_getElem?_getD, hx, hy]
      show _ + ws[k] * ls[k] = ((_ + (ws[k]).toNat * (ls[k]).toNat : Nat) : Int)
      rw [Int.natCast_add, Int.natCast_mul, Int.toNat_of_nonneg hx0, Int.toNat_of_nonneg hy0]
  have := key ws.length (Nat.le_refl _)
  rwa [List.take_of_length_le (by rw [List.length_zip]; omega)] at this
/-- What lengths cost that have a cost. -/
theorem costW_zero {ws ls : List Int} (h : costW ws ls = 0) : alphaB ws = true ∧ ws.length = ls.length ∧ ∀ s, s < ws.length → 0 ≤ ls.getD s 0 ∧ ls.getD s 0 ≤ 15 ∧ (0 < ws.getD s 0 → 1 ≤ ls.getD s 0) := by
  unfold costW at h
  split at h
  · rename_i ha
    split at h
    · rename_i hl
      split at h
      · cases h
      · rename_i hb
        refine ⟨ha, hl, fun s hs => ?_⟩
        have hx : ws[s]? = some ws[s] := by simp [hs]
        have hy : ls[s]? = some ls[s] := by simp [show s < ls.length by omega]
        have hbad : ¬ badC (ws[s], ls[s]) = true := fun hc => hb (any_of (zip_at hx hy) hc)
        rw [List.getD_eq_getElem?_getD, List.getD_eq_getElem?_getD, hx, hy]
        show 0 ≤ ls[s] ∧ ls[s] ≤ 15 ∧ (0 < ws[s] → 1 ≤ ls[s])
        unfold badC at hbad
        simp only [Bool.or_eq_true, Bool.and_eq_true, decide_eq_true_eq] at hbad
        omega
    · cases h
  · cases h
theorem cost_ord {ws ls : List Int} (h : costW ws ls = 0) (hws : ∀ x ∈ ws, 0 ≤ x) : costN ws ls = (SS (fun i => (lwL ws).getD i 0 * (ls.getD ((ordL ws).getD i 0) 0).toNat) (ordL ws).length : Nat) := by
  obtain ⟨_, hl, hb⟩ := costW_zero h
  have h2 : ∀ x ∈ ls, 0 ≤ x := fun x hx => by
    obtain ⟨s, hs, rfl⟩ := List.getElem_of_mem hx
    have := (hb s (by omega)).1
    rwa [List.getD_eq_getElem?_getD, List.getElem?_eq_getElem hs] at this
  unfold costN
  rw [if_pos h, sumC_SS hl hws h2, sum_ord ws]
  have e2 : SS (fun s => if 0 < ws.getD s 0 then 0 else (ws.getD s 0).toNat * (ls.getD s 0).toNat) ws.length = 0 := by
    rw [SS_congr (g := fun _ => 0) (fun s hs => ?_), SS_zero]
    by_cases hp : 0 < ws.getD s 0
    · rw [if_pos hp]
    · rw [if_neg hp, show (ws.getD s 0).toNat = 0 by omega, Nat.zero_mul]
  rw [e2, Nat.add_zero]
  congr 1
  exact SS_congr fun i hi => by rw [lwL_get hi]
section
variable {ws : List Int} {L : Nat} {q : Nat → Nat}
theorem PackOK.costW (h : PackOK ws L q) (ha : alphaB ws = true) (h15 : L ≤ 15) : costW ws (packI ws L) = 0 := by
  unfold Go.Proofs.Ytggffiikfelbjaa.costW
  rw [if_pos ha, if_pos (packI_length ws L).symm, if_neg]
  intro hb
  obtain ⟨p, hp, hbad⟩ := List.any_eq_true.1 hb
  obtain ⟨s, hs, rfl⟩ := List.getElem_of_mem hp
  rw [List.length_zip, packI_length] at hs
  have hs' : s < ws.length := by omega
  have e : (ws.zip (packI ws L))[s] = (ws[s], (packI ws L)[s]'(by rw [packI_length]; exact hs')) := by simp
  have e2 : (packI ws L)[s]'(by rw [packI_length]; exact hs') = ((packL ws L).getD s 0 : Nat) := by
    rw [← packI_get, List.getD_eq_getElem?_getD, List.getElem?_eq_getElem (by rw [packI_length]; exact hs')]; rfl
  have e3 : ws.getD s 0 = ws[s] := by rw [List.getD_eq_getElem?_getD, List.getElem?_eq_getElem hs']; rfl
  have h1 := h.le s
  have h2 := h.has hs'
  rw [e, e2] at hbad
  rw [e3] at h2
  unfold badC at hbad
  simp only [Bool.or_eq_true, Bool.and_eq_true, decide_eq_true_eq] at hbad
  omega
theorem PackOK.cost (h : PackOK ws L q) (ha : alphaB ws = true) (h15 : L ≤ 15) (hws : ∀ x ∈ ws, 0 ≤ x) : costN ws (packI ws L) = (SS (fun i => (lwL ws).getD i 0 * q i) (ordL ws).length : Nat) := by
  rw [cost_ord (h.costW ha h15) hws]
  congr 1
  exact SS_congr fun i hi => by rw [packI_get, h.at_ i hi, Int.toNat_natCast]
/-- No others cost less. -/
theorem PackOK.leastI (h : PackOK ws L q) (ha : alphaB ws = true) (h15 : L ≤ 15) (hws : ∀ x ∈ ws, 0 ≤ x) {ls : List Int} (hc : Go.Proofs.Ytggffiikfelbjaa.costW ws ls = 0) (hr : roomW ls L = 0) (hn : 0 ≤ roomN ls L) : costN ws (packI ws L) ≤ costN ws ls := by
  rw [h.cost ha h15 hws, cost_ord hc hws]
  obtain ⟨_, hl, hb⟩ := costW_zero hc
  have hle : ∀ s, s < ws.length → ls.getD s 0 ≤ (L : Int) := fun s hs => by
    unfold roomW at hr
    split at hr
    · cases hr
    · split at hr
      · cases hr
      · rename_i hbad
        have hsl : s < ls.length := by omega
        have : ¬ badL L ls[s] = true := fun hc => hbad (List.any_eq_true.2 ⟨_, List.getElem_mem hsl, hc⟩)
        unfold badL at this
        simp only [Bool.or_eq_true, decide_eq_true_eq] at this
        rw [List.getD_eq_getElem?_getD, List.getElem?_eq_getElem hsl]
        show ls[s] ≤ _
        omega
  have hu : usedL L ls ≤ 2 ^ L := by
    unfold roomN at hn
    rw [if_pos hr, Int.toNat_natCast] at hn
    omega
  have := h.least (fun i => (ls.getD ((ordL ws).getD i 0) 0).toNat) (fun i hi => by
    have h1 := ord_get hi
    have h2 := hb _ h1.1
    have h3 := hle _ h1.1
    have h4 := h2.2.2 h1.2
    omega) (by
    rw [usedL_SS, ← hl, sum_ord ws] at hu
    have e : SS (fun i => 2 ^ (L - (ls.getD ((ordL ws).getD i 0) 0).toNat)) (ordL ws).length = SS (fun i => if 0 < ls.getD ((ordL ws).getD i 0) 0 then 2 ^ (L - (ls.getD ((ordL ws).getD i 0) 0).toNat) else 0) (ordL ws).length :=
      SS_congr fun i hi => by
        have h1 := ord_get hi
        have h4 := (hb _ h1.1).2.2 h1.2
        rw [if_pos (by omega)]
    rw [e]; omega)
  omega
end

set_option maxRecDepth 100000 in
set_option maxHeartbeats 4000000 in
theorem packLeast_any (A O : Option Addr) (ws ls : List Int) (ca co : Nat) (lim : Int) (w : World) (hA : Rd w w.heap.size A (ws.map (.int .u64))) (hla : ws.length ≤ 9223372036854775807) (hO : Rd w w.heap.size O (ls.map (.int .i64))) (hlo : ls.length ≤ 9223372036854775807) (hws : ∀ x ∈ ws, U64 x) (hls : ∀ x ∈ ls, I64 x) (hlim : I64 lim) :
    Calls Try.prog 9 #[.slice A ws.length ca, .int .i64 lim, .slice O ls.length co] w fun e w' => e = .returned (.bool true) ∧ Below w.heap.size w w' := by
  have HA := hide hA
  have HO := hide hO
  have hws0 : ∀ x ∈ ws, 0 ≤ x := fun x hx => (hws x hx).1
  have ro := fun (W : World) (hb : Below w.heap.size w W) => room_any O ls co lim W ((HO.out.below hb).more hb.size) hlo hlim
  have cs := fun (W : World) (hb : Below w.heap.size w W) => cost_any A O ws ls ca co W ((HA.out.below hb).more hb.size) ((HO.out.below hb).more hb.size) hla hlo hws0 hls
  unfold RoomP at ro
  unfold CostP at cs
  obtain ⟨rw_, hrw⟩ : ∃ r, r = roomW ls lim := ⟨_, rfl⟩
  obtain ⟨rn, hrn⟩ : ∃ r, r = roomN ls lim := ⟨_, rfl⟩
  obtain ⟨cw, hcw⟩ : ∃ r, r = costW ws ls := ⟨_, rfl⟩
  obtain ⟨cn, hcn⟩ : ∃ r, r = costN ws ls := ⟨_, rfl⟩
  rw [← hrw, ← hrn] at ro
  rw [← hcw, ← hcn] at cs
  have HRo := hide ro
  have HCs := hide cs
  by_cases h0 : packW ws lim = 0
  · obtain ⟨ha, L, rfl, h1, h15, h2⟩ := packW_zero h0
    obtain ⟨q, ok⟩ := packOK ws h1 h2
    have ln := fun (W : World) (hb : Below w.heap.size w W) => lengths_yes A ws ca L W ((HA.out.below hb).more hb.size) hla hws0 hlim h0
    rw [Int.toNat_natCast] at ln
    have cp := fun (A' : Option Addr) (c : Nat) (W : World) (hb : Below w.heap.size w W) (hr : Rd W W.heap.size A' ((packI ws L).map (.int .i64))) => cost_any A A' ws (packI ws L) ca c W ((HA.out.below hb).more hb.size) hr hla (by rw [packI_length]; exact hla) hws0 (fun x hx => by
      obtain ⟨s, hs, rfl⟩ := List.getElem_of_mem hx
      have e : (packI ws L)[s] = ((packL ws L).getD s 0 : Nat) := by rw [← packI_get, List.getD_eq_getElem?_getD, List.getElem?_eq_getElem hs]; rfl
      have := ok.le s
      rw [e]; exact ⟨by omega, by omega⟩)
    unfold CostP at cp
    rw [ok.costW ha h15, packI_length] at cp
    obtain ⟨pn, hpn⟩ : ∃ r, r = costN ws (packI ws L) := ⟨_, rfl⟩
    rw [← hpn] at cp
    have hle : rw_ = 0 → cw = 0 → 0 ≤ rn → pn ≤ cn := fun e1 e2 e3 => by
      rw [hpn, hcn]
      exact ok.leastI ha h15 hws0 (by rw [← hcw]; exact e2) (by rw [← hrw]; exact e1) (by rw [← hrn]; exact e3)
    have HLn := hide ln
    have HCp := hide cp
    have HLe := hide hle
    clear ro cs ln cp hle hrw hrn hcw hcn hpn ok h0 ha hA hO hws hws0 hls h2
    by_cases g1 : rw_ = 0
    · subst g1
      by_cases g2 : cw = 0
      · subst g2
        by_cases g3 : rn < 0
        · have d3 : decide (rn < 0) = true := decide_eq_true g3
          go_enter Try.func9, Try.ntmps9
          go_wp2_with (first | (go_at_call 25; refine (Calls.mono (lives20 w) ?_); rintro e w1 ⟨rfl, hb1⟩) | (go_at_call 26; refine (Calls.mono (HLn.out _ hb1) ?_); rintro e w2 ⟨⟨A2, c2, rfl, hr2, _⟩, hb2⟩; have hb2 := hb1.trans (hb2.mono hb1.size); have HR2 := hide hr2; clear hr2) | (go_at_call 30; refine (Calls.mono (HRo.out _ hb2) ?_); rintro e w3 ⟨rfl, hww⟩; replace hww := hww.symm; subst hww) | (go_at_call 28; have tok := HCp; clear HCp; refine (Calls.mono (tok.out A2 c2 w2 hb2 HR2.out) ?_); rintro e w3 ⟨rfl, hww⟩; replace hww := hww.symm; subst hww) | (go_at_call 28; refine (Calls.mono (HCs.out _ hb2) ?_); rintro e w3 ⟨rfl, hww⟩; replace hww := hww.symm; subst hww))
          go_ret
          exact ⟨rfl, hb2⟩
        · have d3 : decide (rn < 0) = false := decide_eq_false g3
          have d4 : decide (pn ≤ cn) = true := decide_eq_true (HLe.out rfl rfl (by omega))
          go_enter Try.func9, Try.ntmps9
          go_wp2_with (first | (go_at_call 25; refine (Calls.mono (lives20 w) ?_); rintro e w1 ⟨rfl, hb1⟩) | (go_at_call 26; refine (Calls.mono (HLn.out _ hb1) ?_); rintro e w2 ⟨⟨A2, c2, rfl, hr2, _⟩, hb2⟩; have hb2 := hb1.trans (hb2.mono hb1.size); have HR2 := hide hr2; clear hr2) | (go_at_call 30; refine (Calls.mono (HRo.out _ hb2) ?_); rintro e w3 ⟨rfl, hww⟩; replace hww := hww.symm; subst hww) | (go_at_call 28; have tok := HCp; clear HCp; refine (Calls.mono (tok.out A2 c2 w2 hb2 HR2.out) ?_); rintro e w3 ⟨rfl, hww⟩; replace hww := hww.symm; subst hww) | (go_at_call 28; refine (Calls.mono (HCs.out _ hb2) ?_); rintro e w3 ⟨rfl, hww⟩; replace hww := hww.symm; subst hww))
          go_ret
          exact ⟨rfl, hb2⟩
      · have d2 : (cw != 0) = true := by simpa using g2
        clear g2
        go_enter Try.func9, Try.ntmps9
        go_wp2_with (first | (go_at_call 25; refine (Calls.mono (lives20 w) ?_); rintro e w1 ⟨rfl, hb1⟩) | (go_at_call 26; refine (Calls.mono (HLn.out _ hb1) ?_); rintro e w2 ⟨⟨A2, c2, rfl, hr2, _⟩, hb2⟩; have hb2 := hb1.trans (hb2.mono hb1.size); have HR2 := hide hr2; clear hr2) | (go_at_call 30; refine (Calls.mono (HRo.out _ hb2) ?_); rintro e w3 ⟨rfl, hww⟩; replace hww := hww.symm; subst hww) | (go_at_call 28; have tok := HCp; clear HCp; refine (Calls.mono (tok.out A2 c2 w2 hb2 HR2.out) ?_); rintro e w3 ⟨rfl, hww⟩; replace hww := hww.symm; subst hww) | (go_at_call 28; refine (Calls.mono (HCs.out _ hb2) ?_); rintro e w3 ⟨rfl, hww⟩; replace hww := hww.symm; subst hww))
        go_ret
        exact ⟨rfl, hb2⟩
    · have d1 : (rw_ != 0) = true := by simpa using g1
      clear g1
      go_enter Try.func9, Try.ntmps9
      go_wp2_with (first | (go_at_call 25; refine (Calls.mono (lives20 w) ?_); rintro e w1 ⟨rfl, hb1⟩) | (go_at_call 26; refine (Calls.mono (HLn.out _ hb1) ?_); rintro e w2 ⟨⟨A2, c2, rfl, hr2, _⟩, hb2⟩; have hb2 := hb1.trans (hb2.mono hb1.size); have HR2 := hide hr2; clear hr2) | (go_at_call 30; refine (Calls.mono (HRo.out _ hb2) ?_); rintro e w3 ⟨rfl, hww⟩; replace hww := hww.symm; subst hww) | (go_at_call 28; have tok := HCp; clear HCp; refine (Calls.mono (tok.out A2 c2 w2 hb2 HR2.out) ?_); rintro e w3 ⟨rfl, hww⟩; replace hww := hww.symm; subst hww) | (go_at_call 28; refine (Calls.mono (HCs.out _ hb2) ?_); rintro e w3 ⟨rfl, hww⟩; replace hww := hww.symm; subst hww))
      go_ret
      exact ⟨rfl, hb2⟩
  · obtain ⟨v, hv⟩ : ∃ v, v = packW ws lim := ⟨_, rfl⟩
    have ln := fun (W : World) (hb : Below w.heap.size w W) => lengths_no A ws ca lim W ((HA.out.below hb).more hb.size) hla hws0 hlim hv.symm (by rw [hv]; exact h0)
    have hvb : (v != 0) = true := by rw [hv]; simpa using h0
    have cp := fun (W : World) (hb : Below w.heap.size w W) => cost_any A none ws [] ca 0 W ((HA.out.below hb).more hb.size) Rd.nil_ hla (by simp) hws0 (by simp)
    unfold CostP at cp
    obtain ⟨pw, hpw⟩ : ∃ r, r = costW ws [] := ⟨_, rfl⟩
    obtain ⟨pn, hpn⟩ : ∃ r, r = costN ws [] := ⟨_, rfl⟩
    rw [← hpw, ← hpn, show ([] : List Int).length = 0 from rfl] at cp
    have HLn := hide ln
    have HCp := hide cp
    clear ro cs ln cp hv h0 hrw hrn hcw hcn hpn hpw hA hO hws hws0 hls
    go_enter Try.func9, Try.ntmps9
    go_wp2_with (first | (go_at_call 25; refine (Calls.mono (lives20 w) ?_); rintro e w1 ⟨rfl, hb1⟩) | (go_at_call 26; refine (Calls.mono (HLn.out _ hb1) ?_); rintro e w2 ⟨rfl, hb2⟩; have hb2 := hb1.trans (hb2.mono hb1.size)) | (go_at_call 30; refine (Calls.mono (HRo.out _ hb2) ?_); rintro e w3 ⟨rfl, hww⟩; replace hww := hww.symm; subst hww) | (go_at_call 28; have tok := HCp; clear HCp; refine (Calls.mono (tok.out _ hb2) ?_); rintro e w3 ⟨rfl, hww⟩; replace hww := hww.symm; subst hww) | (go_at_call 28; refine (Calls.mono (HCs.out _ hb2) ?_); rintro e w3 ⟨rfl, hww⟩; replace hww := hww.symm; subst hww))
    go_ret
    exact ⟨rfl, hb2⟩
#print axioms packLeast_any
end Go.Proofs.Ytggffiikfelbjaa
