/- A row of numbers that is sorted in place: swapped places, swapped ranges, rotated ranges. Walks: slices.swapRangeCmpFunc, rotateCmpFunc. -/
import Derived.Test.YtggffiikfelbjaaPackA
import Derived.BigRegion
namespace Go.Proofs.Ytggffiikfelbjaa
open Go.RowKit

/-- The block g holds these numbers, and whatever lies behind them. -/
def Dat (w : World) (g : Nat) (xs : List Nat) : Prop := ∃ cs, Bk w g 3 cs ∧ ∀ (i x : Nat), xs[i]? = some x → cs[i]? = some (.int .i64 x)
section
variable {w w' : World} {g : Nat} {xs : List Nat}
theorem Dat.lt (h : Dat w g xs) : g < w.heap.size := by obtain ⟨_, h, _⟩ := h; exact h.lt
theorem Dat.cell (h : Dat w g xs) {i x : Nat} (hx : xs[i]? = some x) : w.cell? ⟨g, i, none⟩ = some (.int .i64 x) := by
  obtain ⟨cs, h, hc⟩ := h; exact (h.cell i).trans (hc i x hx)
theorem Dat.free (h : Dat w g xs) (i : Nat) : w.frozen? ⟨g, i, none⟩ = false := by obtain ⟨cs, h, _⟩ := h; exact h.free i
theorem Dat.drewN (h : Dat w g xs) (n : Nat) : Dat (w.drewN n) g xs := h
theorem Dat.drew (h : Dat w g xs) : Dat w.drew g xs := h
theorem Dat.fr {S : Nat → Prop} (h : Dat w g xs) (hf : Fr S w w') (hg : ¬ S g) : Dat w' g xs := by
  obtain ⟨cs, h, hc⟩ := h; exact ⟨cs, h.fr hf hg, hc⟩
theorem Dat.below {B : Nat} (h : Dat w g xs) (hf : Below B w w') (hg : g < B) : Dat w' g xs := by
  obtain ⟨cs, h, hc⟩ := h; exact ⟨cs, h.below hf hg, hc⟩
theorem Dat.set_ (h : Dat w g xs) {i : Nat} (hi : i < xs.length) (v : Nat) : Dat (w.setCell ⟨g, i, none⟩ (.int .i64 v)) g (xs.set i v) := by
  obtain ⟨cs, h, hc⟩ := h
  refine ⟨_, h.set_ i (.int .i64 v), fun j x hx => ?_⟩
  have hs : i < cs.size := by
    have := hc i xs[i] (by simp [hi])
    rcases Nat.lt_or_ge i cs.size with h' | h'
    · exact h'
    · rw [Array.getElem?_eq_none h'] at this; cases this
  by_cases e : i = j
  · subst e
    rw [List.getElem?_set_self hi] at hx
    simp only [Option.some.injEq] at hx
    subst hx
    simp [hs]
  · rw [List.getElem?_set_ne e] at hx
    rw [Array.getElem?_setIfInBounds_ne e]
    exact hc j x hx
end
/-- Two places of a row, and the row with them swapped. -/
theorem at_mid {α : Type} (L R : List α) (u : α) : (L ++ u :: R)[L.length]? = some u := by simp
theorem set_mid {α : Type} (L R : List α) (u v : α) : (L ++ u :: R).set L.length v = L ++ v :: R := by simp
theorem two_at {α : Type} (L M R : List α) (u v : α) {i j : Nat} (hi : i = L.length) (hj : j = L.length + 1 + M.length) :
    (L ++ u :: (M ++ v :: R))[i]? = some u ∧ (L ++ u :: (M ++ v :: R))[j]? = some v ∧ i < (L ++ u :: (M ++ v :: R)).length ∧ j < (L ++ u :: (M ++ v :: R)).length ∧
    ((L ++ u :: (M ++ v :: R)).set i v).set j u = L ++ v :: (M ++ u :: R) := by
  subst hi
  have e : ∀ z : α, L ++ z :: (M ++ v :: R) = (L ++ z :: M) ++ v :: R := fun z => by simp
  have hj2 : ∀ z : α, j = (L ++ z :: M).length := fun z => by simp; omega
  refine ⟨at_mid _ _ _, ?_, by simp, by simp; omega, ?_⟩
  · rw [e u, hj2 u]; exact at_mid _ _ _
  · rw [set_mid, e v, hj2 v, set_mid]; simp
theorem Dat.swap {w : World} {g : Nat} {L M R : List Nat} {u v i j : Nat} (h : Dat w g (L ++ u :: (M ++ v :: R))) (hi : i = L.length) (hj : j = L.length + 1 + M.length) :
    Dat ((w.setCell ⟨g, i, none⟩ (.int .i64 v)).setCell ⟨g, j, none⟩ (.int .i64 u)) g (L ++ v :: (M ++ u :: R)) := by
  obtain ⟨h1, h2, h3, h4, h5⟩ := two_at L M R u v hi hj
  have := (h.set_ h3 v).set_ (i := j) (by rw [List.length_set]; exact h4) u
  rwa [h5] at this
theorem Fr.two {w w' : World} {g i j : Nat} (h : Fr (fun k => k = g) w w') (u v : Value) : Fr (fun k => k = g) w ((w'.setCell ⟨g, i, none⟩ u).setCell ⟨g, j, none⟩ v) := (h.setCell (.inl rfl) _).setCell (.inl rfl) _

/-- What the sort's inner functions answer: the row turned, nothing else. -/
def DatP (g : Nat) (ys : List Nat) (w : World) (e : Ending) (w' : World) : Prop := e = .returned (.tuple #[]) ∧ Dat w' g ys ∧ Fr (fun k => k = g) w w'

set_option maxRecDepth 100000 in
set_option maxHeartbeats 2000000 in
theorem swapRange_any (g c a b n L : Nat) (P U M V Q : List Nat) (F : Value) (w : World) (h : Dat w g (P ++ (U ++ (M ++ (V ++ Q))))) (hL : L = (P ++ (U ++ (M ++ (V ++ Q)))).length) (hU : U.length = n) (hV : V.length = n) (ha : a = P.length) (hb : b = P.length + n + M.length) (hlen : L ≤ 1000000) :
    Calls Try.prog 76 #[.slice (some ⟨g, 0, none⟩) L c, .int .i64 a, .int .i64 b, .int .i64 n, F] w (DatP g (P ++ (V ++ (M ++ (U ++ Q)))) w) := by
  have H := hide h
  have HU := hide hU
  have HV := hide hV
  have HA := hide ha
  have HB := hide hb
  have hlb : b + n ≤ L := by simp at hL; omega
  have hab : a + n ≤ b := by omega
  clear h hL hU hV ha hb
  go_enter Try.func76, Try.ntmps76
  go_wp2_with fail
  go_loopw [10] (fun i wr => ∃ (k : Nat) (U1 U2 V1 V2 : List Nat), k ≤ n ∧ i = .int .i64 k ∧ Hid (U = U1 ++ U2) ∧ Hid (V = V1 ++ V2) ∧ Hid (U1.length = k) ∧ Hid (V1.length = k) ∧ Hid (Dat wr g (P ++ (V1 ++ (U2 ++ (M ++ (U1 ++ (V2 ++ Q))))))) ∧ Hid (Fr (fun k => k = g) w wr)) (fun i _ => n - (intOf i).toNat)
  case atStart => exact ⟨0, [], U, [], V, by omega, rfl, rfl, rfl, rfl, rfl, H.out, Fr.refl _ _⟩
  case round =>
    clear H
    obtain ⟨k, U1, U2, V1, V2, hk, rfl, e1, e2, e3, e4, HD, HF⟩ := hrel
    by_cases hlt : k < n
    · obtain ⟨u, U3, hu⟩ : ∃ u U3, U2 = u :: U3 := by
        cases U2 with
        | nil => have := congrArg List.length e1.out; rw [HU.out] at this; simp at this; have := e3.out; omega
        | cons u U3 => exact ⟨u, U3, rfl⟩
      obtain ⟨v, V3, hv⟩ : ∃ v V3, V2 = v :: V3 := by
        cases V2 with
        | nil => have := congrArg List.length e2.out; rw [HV.out] at this; simp at this; have := e4.out; omega
        | cons v V3 => exact ⟨v, V3, rfl⟩
      subst hu hv
      have hd := HD.out
      have eq1 : P ++ (V1 ++ (u :: U3 ++ (M ++ (U1 ++ (v :: V3 ++ Q))))) = (P ++ V1) ++ u :: ((U3 ++ (M ++ U1)) ++ v :: (V3 ++ Q)) := by simp
      rw [eq1] at hd
      have hi : a + k = (P ++ V1).length := by have := HA.out; have := e4.out; simp; omega
      have hUl : U3.length + 1 + k = n := by
        have := congrArg List.length e1.out
        rw [HU.out] at this; have := e3.out; simp at *; omega
      have hj : b + k = (P ++ V1).length + 1 + (U3 ++ (M ++ U1)).length := by
        have := HB.out; have := e3.out; have := e4.out
        simp; omega
      obtain ⟨t1, t2, t3, t4, t5⟩ := two_at (P ++ V1) (U3 ++ (M ++ U1)) (V3 ++ Q) u v hi hj
      have c1 := hd.cell t1
      have c2 := hd.cell t2
      have f1 := hd.free (a + k)
      have f2 := hd.free (b + k)
      have hd2 := hd.swap hi hj
      have HD2 := hide hd2
      have c3 : (wr.setCell ⟨g, a + k, none⟩ (.int .i64 v)).cell? ⟨g, b + k, none⟩ = some (.int .i64 u) ∨ True := .inr trivial
      clear hd hd2 t1 t2 t3 t4 t5 hi hj hUl eq1 HD c3
      go_wp2_with fail
      go_region
      go_wp2_with fail
      go_roundw
      case rel =>
        refine ⟨k + 1, U1 ++ [u], U3, V1 ++ [v], V3, by omega, by go_num, hide (by rw [e1.out]; simp), hide (by rw [e2.out]; simp), hide (by have := e3.out; simp; omega), hide (by have := e4.out; simp; omega), hide ?_, hide ((HF.out.two _ _).drew)⟩
        have := HD2.out.drew
        simpa using this
      case measure => simp [intOf]; omega
    · obtain rfl : U2 = [] := by
        have := congrArg List.length e1.out; rw [HU.out] at this; have := e3.out
        cases U2 with
        | nil => rfl
        | cons _ _ => simp at *; omega
      obtain rfl : V2 = [] := by
        have := congrArg List.length e2.out; rw [HV.out] at this; have := e4.out
        cases V2 with
        | nil => rfl
        | cons _ _ => simp at *; omega
      go_wp2_with fail
      refine bodyPost_ret (results_none rfl _ _ _) rfl ?_
      refine ⟨rfl, ?_, HF.out⟩
      have := HD.out
      rw [e1.out, e2.out]
      simpa using this

set_option maxRecDepth 100000 in
set_option maxHeartbeats 2000000 in
theorem rotate_any (g c a m b L : Nat) (P U V Q : List Nat) (F : Value) (w : World) (h : Dat w g (P ++ (U ++ (V ++ Q)))) (hL : L = (P ++ (U ++ (V ++ Q))).length) (ha : a = P.length) (hm : m = P.length + U.length) (hb : b = P.length + U.length + V.length) (hU : 0 < U.length) (hV : 0 < V.length) (hlen : L ≤ 1000000) :
    Calls Try.prog 75 #[.slice (some ⟨g, 0, none⟩) L c, .int .i64 a, .int .i64 m, .int .i64 b, F] w (DatP g (P ++ (V ++ (U ++ Q))) w) := by
  have H := hide h
  have HL := hide hL
  have HM := hide (And.intro ha (And.intro hm hb))
  have h1 : a < m := by omega
  have h2 : m < b := by omega
  have h3 : b ≤ L := by simp at hL; omega
  obtain ⟨X, hX⟩ : ∃ X, X = P ++ (V ++ (U ++ Q)) := ⟨_, rfl⟩
  rw [← hX]
  have HX := hide hX
  clear h hL ha hm hb hU hV hX
  go_enter Try.func75, Try.ntmps75
  go_wp2_with fail
  go_loopw [10, 11] (fun vi vj wr => ∃ (i j : Nat) (P1 U1 V1 Q1 : List Nat), vi = .int .i64 i ∧ vj = .int .i64 j ∧ 0 < i ∧ 0 < j ∧ i ≤ m ∧ m + j ≤ L ∧ Hid (U1.length = i) ∧ Hid (V1.length = j) ∧ Hid (P1.length + i = m) ∧ Hid (L = (P1 ++ (U1 ++ (V1 ++ Q1))).length) ∧ Hid (Dat wr g (P1 ++ (U1 ++ (V1 ++ Q1)))) ∧ Hid (P1 ++ (V1 ++ (U1 ++ Q1)) = X) ∧ Hid (Fr (fun k => k = g) w wr)) (fun i j _ => (intOf i).toNat + (intOf j).toNat)
  case atStart =>
    obtain ⟨ha, hm, hb⟩ := HM.out
    exact ⟨m - a, b - m, P, U, V, Q, v_int (by omega), v_int (by omega), by omega, by omega, by omega, by omega, hide (by omega), hide (by omega), hide (by omega), HL, H, hide HX.out.symm, hide (Fr.refl _ _)⟩
  case round =>
    clear H HL HM HX
    obtain ⟨i, j, P1, U1, V1, Q1, rfl, rfl, hi, hj, him, hjL, e1, e2, e3, HL, HD, HX, HF⟩ := hrel
    rcases Nat.lt_trichotomy i j with g1 | g1 | g1
    · have d1 : ((i : Int) != (j : Int)) = true := by simp; omega
      have d2 : decide ((j : Int) < (i : Int)) = false := decide_eq_false (by omega)
      obtain ⟨V2, V3, hv, hl2, hl3⟩ : ∃ V2 V3, V1 = V2 ++ V3 ∧ V2.length = j - i ∧ V3.length = i := ⟨V1.take (j - i), V1.drop (j - i), (List.take_append_drop _ _).symm, by have := e2.out; simp; omega, by have := e2.out; simp; omega⟩
      subst hv
      have sw := swapRange_any g c (m - i) (m + j - i) i L P1 U1 V2 V3 Q1 F wr (by have := HD.out; simpa using this) (by rw [HL.out]; simp) e1.out hl3 (by have := e3.out; omega) (by have := e3.out; omega) hlen
      have n1 : ((m : Int) - (i : Int)) = ((m - i : Nat) : Int) := by omega
      have n2 : ((m : Int) + (j : Int) - (i : Int)) = ((m + j - i : Nat) : Int) := by omega
      rw [← n1, ← n2] at sw
      have HS := hide sw
      have hl2' := hide hl2
      have hl3' := hide hl3
      clear sw n1 n2 hl2 hl3
      go_wp2_with (go_at_call 76; refine (Calls.mono HS.out ?_); rintro e w1 ⟨rfl, hd1, hf1⟩; have HD1 := hide hd1; have HF1 := hide hf1; clear hd1 hf1)
      go_roundw
      case rel =>
        exact ⟨i, j - i, P1, V3, V2, U1 ++ Q1, rfl, v_int (by omega), hi, by omega, him, by omega, hl3', hl2', e3, hide (by rw [HL.out]; have := e1.out; have := hl3'.out; simp; omega), hide (by have := HD1.out; simpa using this), hide (by rw [← HX.out]; simp), hide (HF.out.trans HF1.out (fun _ h => .inl h))⟩
      case measure => simp [intOf]; omega
    · subst g1
      have d1 : ((i : Int) != (i : Int)) = false := by simp
      have sw := swapRange_any g c (m - i) m i L P1 U1 [] V1 Q1 F wr (by have := HD.out; simpa using this) (by rw [HL.out]; simp) e1.out e2.out (by have := e3.out; omega) (by have := e3.out; simp; omega) hlen
      have n1 : ((m : Int) - (i : Int)) = ((m - i : Nat) : Int) := by omega
      rw [← n1] at sw
      have HS := hide sw
      clear sw n1
      go_wp2_with (go_at_call 76; refine (Calls.mono HS.out ?_); rintro e w1 ⟨rfl, hd1, hf1⟩; have HD1 := hide hd1; have HF1 := hide hf1; clear hd1 hf1)
      refine bodyPost_ret (results_none rfl _ _ _) rfl ?_
      exact ⟨rfl, by rw [← HX.out]; simpa using HD1.out, HF.out.trans HF1.out (fun _ h => .inl h)⟩
    · have d1 : ((i : Int) != (j : Int)) = true := by simp; omega
      have d2 : decide ((j : Int) < (i : Int)) = true := decide_eq_true (by omega)
      obtain ⟨U2, U3, hu, hl2, hl3⟩ : ∃ U2 U3, U1 = U2 ++ U3 ∧ U2.length = j ∧ U3.length = i - j := ⟨U1.take j, U1.drop j, (List.take_append_drop _ _).symm, by have := e1.out; simp; omega, by have := e1.out; simp; omega⟩
      subst hu
      have sw := swapRange_any g c (m - i) m j L P1 U2 U3 V1 Q1 F wr (by have := HD.out; simpa using this) (by rw [HL.out]; simp) hl2 e2.out (by have := e3.out; omega) (by have := e3.out; omega) hlen
      have n1 : ((m : Int) - (i : Int)) = ((m - i : Nat) : Int) := by omega
      rw [← n1] at sw
      have HS := hide sw
      have hl2' := hide hl2
      have hl3' := hide hl3
      clear sw n1 hl2 hl3
      go_wp2_with (go_at_call 76; refine (Calls.mono HS.out ?_); rintro e w1 ⟨rfl, hd1, hf1⟩; have HD1 := hide hd1; have HF1 := hide hf1; clear hd1 hf1)
      go_roundw
      case rel =>
        exact ⟨i - j, j, P1 ++ V1, U3, U2, Q1, v_int (by omega), rfl, by omega, hj, by omega, hjL, hl3', hl2', hide (by have := e3.out; have := e2.out; simp; omega), hide (by rw [HL.out]; have := e2.out; have := hl2'.out; simp; omega), hide (by have := HD1.out; simpa using this), hide (by rw [← HX.out]; simp), hide (HF.out.trans HF1.out (fun _ h => .inl h))⟩
      case measure => simp [intOf]; omega
#print axioms rotate_any
end Go.Proofs.Ytggffiikfelbjaa
