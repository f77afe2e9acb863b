/- Walks: table.check, Size, Add. -/
import Derived.Test.YtggffiikfelbjaaDoorTablePlain
import Derived.Test.YtggffiikfelbjaaDoorWriterC
namespace Go.Proofs.YtggffiikfelbjaaDoor
open Go.RowKit

/-- Why lengths have no bits. -/
def tabW (ls : List Int) : Int := if ls.length = 0 then 7 else okW ls
/-- Lengths' bits. -/
def tabBits (ls : List Int) : List Bool := tableL (ls.map Int.toNat)
theorem moveT_length (now l : Nat) : (moveT now l).length = 1 + 2 * ((l - now) + (now - l)) := by
  have key : ∀ (u : Bool) (d : Nat), (stepsT u d).length = 2 * d := by
    intro u d
    induction d with
    | zero => rfl
    | succ d ih => rw [stepsT, List.length_cons, List.length_cons, ih]; omega
  unfold moveT
  by_cases h : now < l
  · rw [if_pos h, List.length_append, key]; simp; omega
  · rw [if_neg h, List.length_append, key]; simp; omega
theorem tabT_length_le : ∀ (ls : List Nat) (now : Nat), now ≤ 15 → (∀ x ∈ ls, x ≤ 15) → (tabT now ls).length ≤ 31 * ls.length := by
  intro ls
  induction ls with
  | nil => intro _ _ _; simp [tabT]
  | cons l ls ih =>
    intro now hn h
    have hl := h l (by simp)
    have := ih l hl (fun x hx => h x (List.mem_cons_of_mem _ hx))
    rw [tabT, List.length_append, moveT_length, List.length_cons]
    omega
theorem okL_nat {ls : List Int} (h : okL ls = true) : ls.length ≤ 512 ∧ ∀ x ∈ ls, 0 ≤ x ∧ x ≤ 15 := by
  unfold okL at h
  simp only [Bool.and_eq_true, decide_eq_true_eq] at h
  have h := h.1
  unfold roomW at h
  split at h
  · cases h
  · rename_i g
    split at h
    · cases h
    · rename_i g2
      refine ⟨by omega, fun x hx => ?_⟩
      have : ¬ badL 15 x = true := fun hb => g2 (List.any_eq_true.2 ⟨x, hx, hb⟩)
      unfold badL at this
      simp only [Bool.or_eq_true, decide_eq_true_eq, not_or] at this
      omega
theorem tabW_zero {ls : List Int} (h : tabW ls = 0) : okL ls = true ∧ ls.length ≠ 0 := by
  unfold tabW at h
  split at h
  · cases h
  · rename_i g
    unfold okW at h
    split at h
    · rename_i k; exact ⟨k, g⟩
    · cases h
theorem tabW_seven {ls : List Int} (h : tabW ls ≠ 0) : tabW ls = 7 := by
  unfold tabW okW at h ⊢
  split
  · rfl
  · rename_i g
    rw [if_neg g] at h
    split
    · rename_i k; rw [if_pos k] at h; exact absurd rfl h
    · rfl
theorem tabBits_length_le {ls : List Int} (h : okL ls = true) : (tabBits ls).length ≤ 20000 := by
  obtain ⟨h1, h2⟩ := okL_nat h
  have h3 : ∀ x ∈ ls.map Int.toNat, x ≤ 15 := fun x hx => by
    obtain ⟨y, hy, rfl⟩ := List.mem_map.1 hx
    have := h2 y hy; omega
  have h4 : (ls.map Int.toNat).headD 0 ≤ 15 := by
    cases hl : ls.map Int.toNat with
    | nil => simp
    | cons x l => rw [hl] at h3; exact h3 x (by simp)
  have := tabT_length_le _ _ h4 h3
  unfold tabBits tableL
  rw [List.length_append, natBits_length]
  rw [List.length_map] at this
  omega

set_option maxHeartbeats 1000000 in
theorem tcheck_any (A : Option Addr) (ls : List Int) (c : Nat) (w : World) (h : Rd w w.heap.size A (ls.map (.int .i64))) (hlen : ls.length ≤ 9223372036854775807) :
    Calls Tryd.prog 18 #[.slice A ls.length c] w fun e w' => e = .returned (.int .i64 (tabW ls)) ∧ w' = w := by
  by_cases h0 : ls.length = 0
  · have hw : tabW ls = 7 := by unfold tabW; rw [if_pos h0]
    have HW := hide hw
    have b0 : ((ls.length : Int) == 0) = true := by simp; exact List.eq_nil_of_length_eq_zero h0
    clear hw h0
    go_enter Tryd.func18, Tryd.ntmps18
    go_wp2_with fail
    all_goals
      first
        | (exfalso; simp_all; done)
        | (go_ret; exact ⟨ret_int HW.out.symm, rfl⟩)
  · have hw : tabW ls = okW ls := by unfold tabW; rw [if_neg h0]
    have HW := hide hw
    have b0 : ((ls.length : Int) == 0) = false := by simp; exact fun e => h0 (by rw [e]; rfl)
    have ck := canonCheck_any A ls c w h hlen
    have HCk := hide ck
    clear hw ck h
    go_enter Tryd.func18, Tryd.ntmps18
    go_wp2_with (go_at_call 11; refine (Calls.mono HCk.out ?_); rintro e w' ⟨rfl, hww⟩; replace hww := hww.symm; subst hww)
    all_goals
      first
        | (exfalso; simp_all; done)
        | (go_ret; exact ⟨ret_int HW.out.symm, rfl⟩)
#print axioms tcheck_any
end Go.Proofs.YtggffiikfelbjaaDoor
