/- The order of a stable sort of places by their weights. Walk: slices.insertionSortCmpFunc at leaves' comparison. -/
import Derived.Test.YtggffiikfelbjaaSortA
namespace Go.Proofs.Ytggffiikfelbjaa
open Go.RowKit

/-- Ahead: lighter, or as heavy and of a lesser place. -/
def Lx (ws : List Int) (x y : Nat) : Prop := ws.getD x 0 < ws.getD y 0 ∨ (ws.getD x 0 = ws.getD y 0 ∧ x < y)
theorem Lx.trans {ws : List Int} {x y z : Nat} (h : Lx ws x y) (k : Lx ws y z) : Lx ws x z := by
  unfold Lx at *; omega
theorem Lx.irrefl {ws : List Int} {x : Nat} (h : Lx ws x x) : False := by
  unfold Lx at h; omega
/-- The comparison, in every world that the sort passes through. -/
def CmpAt (g B : Nat) (ws : List Int) (w : World) : Prop :=
  ∀ W, Fr (fun k => k = g) w W → ∀ x y : Nat, x < ws.length → y < ws.length →
    Calls Try.prog 66 #[.int .i64 x, .int .i64 y, .pointer (some ⟨B, 0, none⟩)] W fun e w' => e = .returned (.int .i64 (cmpI (ws.getD x 0) (ws.getD y 0))) ∧ ∃ j, w' = W.drewN j
theorem CmpAt.fr {g B : Nat} {ws : List Int} {w w' : World} (h : CmpAt g B ws w) (hf : Fr (fun k => k = g) w w') : CmpAt g B ws w' :=
  fun W hW => h W (hf.trans hW (fun _ h => .inl h))
theorem Dat.swap2 {w : World} {g : Nat} {L M R : List Nat} {u v i j : Nat} (h : Dat w g (L ++ u :: (M ++ v :: R))) (hi : i = L.length) (hj : j = L.length + 1 + M.length) :
    Dat ((w.setCell ⟨g, j, none⟩ (.int .i64 u)).setCell ⟨g, i, none⟩ (.int .i64 v)) g (L ++ v :: (M ++ u :: R)) := by
  obtain ⟨h1, h2, h3, h4, h5⟩ := two_at L M R u v hi hj
  have := (h.set_ h4 u).set_ (i := i) (by rw [List.length_set]; exact h3) v
  rw [List.set_comm _ _ (by omega)] at this
  rwa [h5] at this
/-- What sorts a part: some order of it, the right one; nothing else has turned. -/
def SortP (ws : List Int) (g : Nat) (P S Q : List Nat) (w : World) (e : Ending) (w' : World) : Prop :=
  ∃ Z, e = .returned (.tuple #[]) ∧ Z.Perm S ∧ Z.Pairwise (Lx ws) ∧ Dat w' g (P ++ (Z ++ Q)) ∧ Fr (fun k => k = g) w w'

theorem ins_sorted {ws : List Int} {Z1 Z2 : List Nat} {x : Nat} (h : (Z1 ++ Z2).Pairwise (Lx ws)) (h1 : ∀ z, Z1.getLast? = some z → Lx ws z x) (h2 : ∀ z ∈ Z2, Lx ws x z) : (Z1 ++ x :: Z2).Pairwise (Lx ws) := by
  rw [List.pairwise_append] at h ⊢
  obtain ⟨p1, p2, p3⟩ := h
  have h1' : ∀ z ∈ Z1, Lx ws z x := by
    intro z hz
    obtain ⟨Z0, l, rfl⟩ : ∃ Z0 l, Z1 = Z0 ++ [l] := by
      rcases List.eq_nil_or_concat Z1 with rfl | ⟨Z0, l, rfl⟩
      · simp at hz
      · exact ⟨Z0, l, by simp⟩
    have hl := h1 l (by simp)
    rcases List.mem_append.1 hz with hz | hz
    · rw [List.pairwise_append] at p1
      exact (p1.2.2 z hz l (by simp)).trans hl
    · simp at hz; subst hz; exact hl
  refine ⟨p1, List.pairwise_cons.2 ⟨h2, p2⟩, fun a ha b hb => ?_⟩
  rcases List.mem_cons.1 hb with rfl | hb
  · exact h1' a ha
  · exact p3 a ha b hb

set_option maxRecDepth 100000 in
set_option maxHeartbeats 4000000 in
theorem insertion_any (g B c a b L : Nat) (ws : List Int) (P S Q : List Nat) (w : World) (h : Dat w g (P ++ (S ++ Q))) (hL : L = (P ++ (S ++ Q)).length) (ha : a = P.length) (hb : b = P.length + S.length) (hlen : L ≤ 1000000)
    (hS : S.Pairwise (fun x y => x < y)) (hn : ∀ x ∈ S, x < ws.length) (hC : CmpAt g B ws w) :
    Calls Try.prog 73 #[.slice (some ⟨g, 0, none⟩) L c, .int .i64 a, .int .i64 b, .func (.func 66) #[] #[.pointer (some ⟨B, 0, none⟩)]] w (SortP ws g P S Q w) := by
  have H := hide h
  have hbL : b ≤ L := by simp at hL; omega
  have hab : a ≤ b := by omega
  have HC := hide hC
  have HA := hide (And.intro ha (And.intro hb hL))
  have HS := hide (And.intro hS hn)
  clear h hL ha hb hS hn hC
  go_enter Try.func73, Try.ntmps73
  go_wp2_with fail
  go_loopw [8] (fun vi wr => ∃ (i : Nat) (S1 R Z : List Nat), vi = .int .i64 i ∧ a < i ∧ i ≤ b + 1 ∧ Hid (S = S1 ++ R) ∧ Hid (S1.length = min (i - a) S.length) ∧ Hid (Z.Perm S1) ∧ Hid (Z.Pairwise (Lx ws)) ∧ Hid (Dat wr g (P ++ (Z ++ (R ++ Q)))) ∧ Hid (Fr (fun k => k = g) w wr)) (fun i _ => b + 1 - (intOf i).toNat)
  case atStart =>
    cases hS : S with
    | nil => exact ⟨a + 1, [], [], [], by go_num, by omega, by omega, hide rfl, hide (by simp), hide (List.Perm.refl _), hide List.Pairwise.nil, hide (by have := H.out; rw [hS] at this; exact this), hide (Fr.refl _ _)⟩
    | cons x R => exact ⟨a + 1, [x], R, [x], by go_num, by omega, by have := HA.out; rw [hS] at this; simp at this; omega, hide rfl, hide (by simp), hide (List.Perm.refl _), hide (List.pairwise_singleton _ _), hide (by have := H.out; rw [hS] at this; exact this), hide (Fr.refl _ _)⟩
  case round =>
    clear H
    obtain ⟨i, S1, R, Z, rfl, hai, hib, e1, e2, e3, e4, HD, HF⟩ := hrel
    by_cases hlt : i < b
    · have hltd : decide ((i : Int) < (b : Int)) = true := decide_eq_true (by omega)
      obtain ⟨x, R1, hx⟩ : ∃ x R1, R = x :: R1 := by
        cases R with
        | nil =>
          exfalso
          have h1 := congrArg List.length e1.out
          have h2 := e2.out
          have h3 := HA.out
          simp at h1
          omega
        | cons x R1 => exact ⟨x, R1, rfl⟩
      subst hx
      have hzl : Z.length = i - a := by
        have h2 := e2.out
        have h3 := HA.out
        have h4 := e3.out.length_eq
        omega
      have HZl := hide hzl
      clear hzl
      go_wp2_with fail
      go_loopw [9] (fun vj wx => ∃ (j : Nat) (Z1 Z2 : List Nat), vj = .int .i64 j ∧ a ≤ j ∧ j ≤ i ∧ Hid (Z = Z1 ++ Z2) ∧ Hid (Z1.length = j - a) ∧ Hid (∀ z ∈ Z2, Lx ws x z) ∧ Hid (Dat wx g (P ++ (Z1 ++ (x :: (Z2 ++ (R1 ++ Q)))))) ∧ Hid (Fr (fun k => k = g) w wx)) (fun vj _ => (intOf vj).toNat)
      case atStart => exact ⟨i, Z, [], rfl, by omega, by omega, hide (by simp), HZl, hide (by simp), hide (by have := HD.out; simpa using this), HF⟩
      case round =>
        clear HD HF
        obtain ⟨j, Z1, Z2, rfl, haj, hji, f1, f2, f3, HD, HF⟩ := hrel
        have fin : (∀ z, Z1.getLast? = some z → Lx ws z x) → ∃ Z', Hid (Z'.Perm (S1 ++ [x])) ∧ Hid (Z'.Pairwise (Lx ws)) ∧ Hid (Dat wr g (P ++ (Z' ++ (R1 ++ Q)))) := by
          intro hlast
          refine ⟨Z1 ++ x :: Z2, ?_, ?_, ?_⟩
          · have : (Z1 ++ x :: Z2).Perm (Z ++ [x]) := by
              rw [f1.out, List.append_assoc]
              exact List.Perm.append_left _ (List.perm_append_singleton x Z2).symm
            exact this.trans (List.Perm.append_right _ e3.out)
          · have h4 := e4.out
            rw [f1.out] at h4
            exact ins_sorted h4 hlast f3.out
          · have := HD.out
            exact hide (by simpa using this)
        have HFin := hide fin
        clear fin
        have xn : x < ws.length := HS.out.2 x (by rw [e1.out]; simp)
        by_cases hja : a < j
        · obtain ⟨Z0, z, hz⟩ : ∃ Z0 z, Z1 = Z0 ++ [z] := by
            rcases List.eq_nil_or_concat Z1 with e | ⟨Z0, l, e⟩
            · have := f2.out; rw [e] at this; simp at this; omega
            · exact ⟨Z0, l, by simpa using e⟩
          subst hz
          have zS : z ∈ S1 := e3.out.subset (by rw [f1.out]; simp)
          have zn : z < ws.length := HS.out.2 z (by rw [e1.out]; simp [zS])
          have zx : z < x := by
            have h1 := HS.out.1
            rw [e1.out, List.pairwise_append] at h1
            exact h1.2.2 z zS x (by simp)
          have hd := HD.out
          have eq1 : P ++ (Z0 ++ [z] ++ (x :: (Z2 ++ (R1 ++ Q)))) = (P ++ Z0) ++ z :: ([] ++ x :: (Z2 ++ (R1 ++ Q))) := by simp
          rw [eq1] at hd
          have hi1 : j - 1 = (P ++ Z0).length := by have h1 := f2.out; have h2 := HA.out; simp at h1; simp; omega
          have hj1 : j = (P ++ Z0).length + 1 + ([] : List Nat).length := by have h1 := f2.out; have h2 := HA.out; simp at h1; simp; omega
          obtain ⟨t1, t2, t3, t4, t5⟩ := two_at (P ++ Z0) [] (Z2 ++ (R1 ++ Q)) z x hi1 hj1
          have c1 := hd.cell t1
          have c2 := hd.cell t2
          have v1 := hd.free (j - 1)
          have v2 := hd.free j
          have HD2 := hide hd
          have HI := hide (And.intro hi1 hj1)
          have hjL : j < L := by omega
          have cmp := HC.out
          have call := fun (n : Nat) => cmp (wr.drewN n) (HF.out.drewN n) x z xn zn
          obtain ⟨K, hK⟩ : ∃ K, K = cmpI (ws.getD x 0) (ws.getD z 0) := ⟨_, rfl⟩
          rw [← hK] at call
          have HCall := hide call
          have n1 : ((j : Int) - 1) = ((j - 1 : Nat) : Int) := by omega
          have hKd := cmpI_neg (ws.getD x 0) (ws.getD z 0)
          rw [← hK] at hKd
          have dja : decide ((a : Int) < (j : Int)) = true := decide_eq_true (by omega)
          clear hd t1 t2 t3 t4 t5 eq1 hi1 hj1 cmp call hK HD
          by_cases hK0 : K < 0
          · have dk : decide (K < 0) = true := decide_eq_true hK0
            have hlt2 : Lx ws x z := .inl (of_decide_eq_true (hKd.symm.trans dk))
            have HLt := hide hlt2
            clear hKd hlt2
            go_wp2_with fail
            go_quiet ((go_at_call 66; exact Calls.quiet_of (HCall.out _)))
            go_wp2_with fail
            go_region
            go_wp2_with fail
            go_roundw
            case rel =>
              obtain ⟨hi1, hj1⟩ := HI.out
              refine ⟨j - 1, Z0, z :: Z2, v_int (by omega), by omega, by omega, hide (by rw [f1.out]; simp), hide (by have h1 := f2.out; simp at h1; omega), hide ?_, hide ?_, hide ((HF.out.drewN (nq + 1)).two _ _)⟩
              · intro y hy
                rcases List.mem_cons.1 hy with rfl | hy
                · exact HLt.out
                · exact f3.out y hy
              · have := (HD2.out.drewN (nq + 1)).swap2 hi1 hj1
                simpa using this
            case measure => simp [intOf]; omega
          · have dk : decide (K < 0) = false := decide_eq_false hK0
            have hlt2 : Lx ws z x := by
              have := of_decide_eq_false (hKd.symm.trans dk)
              unfold Lx
              omega
            have HLt := hide hlt2
            clear hKd hlt2
            go_wp2_with fail
            go_quiet ((go_at_call 66; exact Calls.quiet_of (HCall.out _)))
            go_wp2_with fail
            go_roundw
            case rel =>
              obtain ⟨Z', z1, z2, z3⟩ := HFin.out (fun y hy => by simp at hy; subst hy; exact HLt.out)
              exact ⟨i + 1, S1 ++ [x], R1, Z', by go_num, by omega, by omega, hide (by rw [e1.out]; simp), hide (by have h2 := e2.out; have h3 := HA.out; have h5 := congrArg List.length e1.out; simp at h5 ⊢; omega), z1, z2, hide (z3.out.drewN _), hide (HF.out.drewN _)⟩
            case measure => simp [intOf]; omega
        · have dja : decide ((a : Int) < (j : Int)) = false := decide_eq_false (by omega)
          have z0 : Z1 = [] := List.eq_nil_of_length_eq_zero (by have := f2.out; omega)
          have HZ0 := hide z0
          clear z0
          go_wp2_with fail
          go_quiet (fail)
          go_wp2_with fail
          go_roundw
          case rel =>
            obtain ⟨Z', z1, z2, z3⟩ := HFin.out (fun y hy => by rw [HZ0.out] at hy; simp at hy)
            exact ⟨i + 1, S1 ++ [x], R1, Z', by go_num, by omega, by omega, hide (by rw [e1.out]; simp), hide (by have h2 := e2.out; have h3 := HA.out; have h5 := congrArg List.length e1.out; simp at h5 ⊢; omega), z1, z2, hide (z3.out.drewN _), hide (HF.out.drewN _)⟩
          case measure => simp [intOf]; omega
    · go_wp2_with fail
      refine bodyPost_ret (results_none rfl _ _ _) rfl ?_
      have hR : R = [] := by
        have h1 := congrArg List.length e1.out
        have h2 := e2.out
        have h3 := HA.out
        simp at h1
        cases R with
        | nil => rfl
        | cons _ _ => simp at h1; omega
      refine ⟨Z, rfl, ?_, e4.out, ?_, HF.out⟩
      · rw [e1.out, hR, List.append_nil]; exact e3.out
      · have := HD.out
        rwa [hR] at this
end Go.Proofs.Ytggffiikfelbjaa
