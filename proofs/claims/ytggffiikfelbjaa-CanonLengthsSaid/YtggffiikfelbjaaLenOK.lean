/- The lengths that cost least are right, and each symbol that has a weight is written and read. No program in sight. -/
import Derived.Test.YtggffiikfelbjaaPFull
import Derived.Test.YtggffiikfelbjaaBack
namespace Go.Proofs.Ytggffiikfelbjaa
open Go.RowKit

theorem packL_one {ws : List Int} {L : Nat} (h : (ordL ws).length = 1) : (packL ws L).getD ((ordL ws).getD 0 0) 0 = 1 := by
  have hp : packL ws L = (List.replicate ws.length 0).set ((ordL ws).getD 0 0) 1 := by unfold packL; rw [if_neg (by omega), if_pos h]
  have hg := ord_get (ws := ws) (i := 0) (by omega)
  rw [hp, List.getD_eq_getElem?_getD, List.getElem?_set_self (by simpa using hg.1)]; rfl
theorem posL_SS (ls : List Int) : posL ls = SS (fun s => if 0 < ls.getD s 0 then 1 else 0) ls.length := by
  have key : ∀ k, k ≤ ls.length → posL (ls.take k) = SS (fun s => if 0 < ls.getD s 0 then 1 else 0) k := by
    intro k
    induction k with
    | zero => intro _; simp [posL, SS]
    | succ k ih =>
      intro hk
      have hx : ls[k]? = some ls[k] := by simp [show k < ls.length by omega]
      rw [posL_step hx, ih (by omega), SS, List.getD_eq_getElem?_getD, hx]; rfl
  have := key ls.length (Nat.le_refl _)
  rwa [List.take_of_length_le (Nat.le_refl _)] at this
section
variable {ws : List Int} {q : Nat → Nat}
theorem PackOK.many {L : Nat} (h : PackOK ws L q) : posL (packI ws L) = (ordL ws).length := by
  rw [posL_SS, packI_length, sum_ord ws]
  have e2 : SS (fun s => if 0 < ws.getD s 0 then 0 else if 0 < (packI ws L).getD s 0 then 1 else 0) ws.length = 0 := by
    rw [SS_congr (g := fun _ => 0) (fun s hs => ?_), SS_zero]
    by_cases hp : 0 < ws.getD s 0
    · rw [if_pos hp]
    · rw [if_neg hp, packI_get, h.out s hp]; rfl
  rw [e2, Nat.add_zero, SS_congr (g := fun _ => 1) (fun i hi => ?_), SS_const, Nat.mul_one]
  have hp := (h.pos i hi).1
  rw [packI_get, h.at_ i hi, if_pos (by omega)]
theorem PackOK.right (h : PackOK ws 15 q) (h512 : ws.length ≤ 512) : okL (packI ws 15) = true := by
  have hr := h.room (by omega) (by omega) h512
  rw [show ((15 : Nat) : Int) = 15 from rfl] at hr
  unfold okL
  rw [hr, h.used, h.many]
  simp only [decide_true, Bool.true_and, Bool.or_eq_true, Bool.and_eq_true, decide_eq_true_eq]
  rcases (show (ordL ws).length = 0 ∨ (ordL ws).length = 1 ∨ 2 ≤ (ordL ws).length by omega) with e | e | e
  · exact .inl (.inr e)
  · refine .inr ⟨e, ?_⟩
    have h1 := packL_one (L := 15) e
    have hg := (ord_get (ws := ws) (i := 0) (by omega)).1
    have h2 := packI_get ws 15 ((ordL ws).getD 0 0)
    have hg2 : (ordL ws).getD 0 0 < (packI ws 15).length := by rw [packI_length]; exact hg
    rw [h1, List.getD_eq_getElem?_getD, List.getElem?_eq_getElem hg2] at h2
    unfold hasL
    have h3 := List.getElem_mem hg2
    rw [show (packI ws 15)[(ordL ws).getD 0 0] = 1 from h2] at h3
    exact List.elem_iff.2 h3
  · exact .inl (.inl (by rw [h.full e]))
theorem right0 : rightB ⟨#[]⟩ 0 = true := by decide
theorem bits0 : bitsL ⟨#[]⟩ (0 : Int).toNat = [] := by rfl
/-- Who has no weight isn't written. -/
theorem PackOK.none (h : PackOK ws 15 q) (h512 : ws.length ≤ 512) {i : Nat} (hi : i < ws.length) (h0 : ws.getD i 0 = 0) : writeR (packI ws 15) ⟨#[]⟩ 0 [(i : Int)] = (3, []) := by
  have e : stepW (packI ws 15) i [] = 3 := by
    unfold stepW
    rw [if_neg (by rw [packI_length]; omega), if_pos (by rw [packI_get, h.out i (by omega)]; rfl)]
  unfold writeR
  rw [if_pos right0, if_pos (h.right h512), bits0, writeL, Int.toNat_natCast, e]; rfl
/-- Who has one is written by its code. -/
theorem PackOK.some (h : PackOK ws 15 q) (h512 : ws.length ≤ 512) {i : Nat} (hi : i < ws.length) (h0 : 0 < ws.getD i 0) :
    writeR (packI ws 15) ⟨#[]⟩ 0 [(i : Int)] = (0, codeB (packI ws 15) i) ∧ ∀ s n, Bs s n (codeB (packI ws 15) i) → readR (packI ws 15) s n 0 = ((i : Int), n, (0 : Int)) := by
  have hp := (h.has hi).1 h0
  have hle := h.le i
  obtain ⟨m, hm⟩ : ∃ m, m = (packL ws 15).getD i 0 := ⟨_, rfl⟩
  rw [← hm] at hp hle
  have hx : (packI ws 15)[i]? = Option.some ((m : Nat) : Int) := by
    have h2 := packI_get ws 15 i
    rw [← hm, List.getD_eq_getElem?_getD, List.getElem?_eq_getElem (by rw [packI_length]; exact hi)] at h2
    rw [List.getElem?_eq_getElem (by rw [packI_length]; exact hi)]
    exact congrArg Option.some h2
  have hd : (packI ws 15).getD i 0 = (m : Int) := by rw [List.getD_eq_getElem?_getD, hx]; rfl
  have hok := h.right h512
  have e : stepW (packI ws 15) i [] = 0 := by
    unfold stepW
    rw [if_neg (by rw [packI_length]; omega), if_neg (by rw [hd]; omega), if_neg (by rw [hd]; simp; omega)]
  constructor
  · unfold writeR
    rw [if_pos right0, if_pos hok, bits0, writeL, Int.toNat_natCast, if_pos e, writeL]; rfl
  · intro s n hbs
    have hlen : (codeB (packI ws 15) i).length = m := by unfold codeB; rw [natBits_length, lenN_of hx, Int.toNat_natCast]
    have hn : n = (m : Nat) := by have := hbs.2.1; rw [hlen] at this; exact this
    subst hn
    unfold readR
    rw [if_pos hbs.1, if_pos hok, if_neg (by omega), Int.toNat_natCast]
    have := next_sym (l := []) (r := []) hok hx hp hle (n' := m) (s := s) (by simpa using hbs)
    simpa using this
end
#print axioms PackOK.some
end Go.Proofs.Ytggffiikfelbjaa
