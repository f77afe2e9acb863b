/- wringerref03.Less, SameOne: two lists of numbers held against each other, as lists are. -/
import Derived.Test.YtggffiikfelbjaaBase
namespace Go.Proofs.Ytggffiikfelbjaa
open Go.RowKit

/-- The order of records: by the first number that differs; else by length. -/
def lessL : List Int → List Int → Bool
  | [], [] => false
  | [], _ :: _ => true
  | _ :: _, [] => false
  | x :: a, y :: b => if x = y then lessL a b else decide (x < y)

theorem lessL_drop (a b : List Int) : ∀ (k : Nat), k ≤ a.length → k ≤ b.length → a.take k = b.take k → lessL a b = lessL (a.drop k) (b.drop k) := by
  induction a generalizing b with
  | nil => intro k hk _ _; simp at hk; subst hk; simp
  | cons x a ih =>
    intro k hk hk' h
    cases k with
    | zero => simp
    | succ k =>
      cases b with
      | nil => simp at hk'
      | cons y b =>
        simp only [List.take_succ_cons, List.cons.injEq] at h
        obtain ⟨rfl, h⟩ := h
        simp only [lessL, if_true, List.drop_succ_cons]
        exact ih b k (by simpa using hk) (by simpa using hk') h

theorem drop_cons_of {a : List Int} {k : Nat} {x : Int} (h : a[k]? = some x) : a.drop k = x :: a.drop (k + 1) := by
  obtain ⟨hk, rfl⟩ := List.getElem?_eq_some_iff.1 h
  exact List.drop_eq_getElem_cons hk
theorem take_succ_of {a : List Int} {k : Nat} {x : Int} (h : a[k]? = some x) : a.take (k + 1) = a.take k ++ [x] := by
  rw [List.take_add_one, h]; rfl
theorem lessL_at {a b : List Int} {k : Nat} {x y : Int} (hx : a[k]? = some x) (hy : b[k]? = some y) (h : lessL a b = lessL (a.drop k) (b.drop k)) (hne : (x != y) = true) :
    lessL a b = decide (x < y) := by
  rw [h, drop_cons_of hx, drop_cons_of hy, lessL, if_neg (by simpa using hne)]
theorem lessL_end {a b : List Int} {k : Nat} (h : lessL a b = lessL (a.drop k) (b.drop k)) (he : a.length ≤ k ∨ b.length ≤ k) (hka : k ≤ a.length) (hkb : k ≤ b.length) :
    lessL a b = decide (a.length < b.length) := by
  rw [h]
  by_cases ha : a.length ≤ k
  · rw [List.drop_eq_nil_of_le ha]
    by_cases hb : b.length ≤ k
    · rw [List.drop_eq_nil_of_le hb]; simp [lessL]; omega
    · rw [List.drop_eq_getElem_cons (by omega)]; simp [lessL]; omega
  · have hb : b.length ≤ k := by omega
    rw [List.drop_eq_nil_of_le hb, List.drop_eq_getElem_cons (by omega)]; simp [lessL]; omega

set_option maxHeartbeats 400000 in
theorem less_any (A B : Option Addr) (a b : List Int) (ca cb : Nat) (w : World) (ha : Rd w w.heap.size A (a.map (.int .u64))) (hb : Rd w w.heap.size B (b.map (.int .u64)))
    (la : a.length ≤ 9223372036854775807) (lb : b.length ≤ 9223372036854775807) :
    Calls Try.prog 35 #[.slice A a.length ca, .slice B b.length cb] w fun e w' => e = .returned (.bool (lessL a b)) ∧ ∃ n, w' = w.drewN n := by
  go_enter Try.func35, Try.ntmps35
  go_wp2
  go_loopw [5] (fun i wr => ∃ k n : Nat, k ≤ a.length ∧ k ≤ b.length ∧ a.take k = b.take k ∧ i = .int .i64 k ∧ wr = w.drewN n) (fun i _ => a.length - (intOf i).toNat)
  case atStart => exact ⟨0, 0, by omega, by omega, by simp, rfl, rfl⟩
  case round =>
    obtain ⟨k, n, hka, hkb, htk, rfl, rfl⟩ := hrel
    have hl := lessL_drop a b k hka hkb htk
    have HL := hide hl
    have HT := hide htk
    clear hl htk
    by_cases h1 : k < a.length
    · by_cases h2 : k < b.length
      · obtain ⟨b1, o1, x, rfl, hb1, hx, c1⟩ := ha.int h1
        obtain ⟨b2, o2, y, rfl, hb2, hy, c2⟩ := hb.int h2
        have HX := hide hx
        have HY := hide hy
        clear hx hy ha hb
        go_wp2
        go_quiet (fail)
        go_wp2
        · have hne : (x != y) = true := by assumption
          go_quiet (fail)
          go_wp2
          go_ret
          exact ⟨ret_bool (lessL_at HX.out HY.out HL.out hne).symm, dr3 _ _ _ _⟩
        · have he : (x != y) = false := by assumption
          go_roundw
          case rel => exact ⟨k + 1, _, by omega, by omega, by rw [take_succ_of HX.out, take_succ_of HY.out, HT.out, show x = y by simpa using he], rfl, rfl⟩
          case measure => simp [intOf]; omega
      · go_wp2
        go_ret
        exact ⟨ret_bool (lessL_end HL.out (by omega) hka hkb).symm, n, rfl⟩
    · go_wp2
      go_ret
      exact ⟨ret_bool (lessL_end HL.out (by omega) hka hkb).symm, n, rfl⟩

/-- Two lists are one. -/
def sameL (a b : List Int) : Bool := !lessL a b && !lessL b a
theorem sameL_iff (a b : List Int) : sameL a b = true ↔ a = b := by
  unfold sameL
  induction a generalizing b with
  | nil => cases b <;> simp [lessL]
  | cons x a ih =>
    cases b with
    | nil => simp [lessL]
    | cons y b =>
      by_cases h : x = y
      · subst h; simp only [lessL, if_true, ih, List.cons.injEq, true_and]
      · have h' : ¬ y = x := fun e => h e.symm
        simp only [lessL, if_neg h', Bool.and_eq_true, Bool.not_eq_true', List.cons.injEq, h, if_false, decide_eq_false_iff_not, false_and, iff_false]
        omega
theorem sameL_eq {a b : List Int} (h : a = b) : sameL a b = true := (sameL_iff a b).2 h
set_option maxHeartbeats 400000 in
theorem sameOne_any (A B : Option Addr) (a b : List Int) (ca cb : Nat) (w : World) (ha : Rd w w.heap.size A (a.map (.int .u64))) (hb : Rd w w.heap.size B (b.map (.int .u64)))
    (la : a.length ≤ 9223372036854775807) (lb : b.length ≤ 9223372036854775807) :
    Calls Try.prog 17 #[.slice A a.length ca, .slice B b.length cb] w fun e w' => e = .returned (.bool (sameL a b)) ∧ ∃ n, w' = w.drewN n := by
  have HA := hide ha
  have HB := hide hb
  clear ha hb
  by_cases h1 : lessL a b = true
  · go_enter Try.func17, Try.ntmps17
    go_wp2_with (go_at_call 35; refine (less_any A B a b ca cb _ HA.out HB.out la lb).mono ?_; rintro e w' ⟨rfl, n1, rfl⟩)
    go_ret
    exact ⟨by simp [sameL, h1], _, rfl⟩
  · have h1 : lessL a b = false := by simpa using h1
    go_enter Try.func17, Try.ntmps17
    go_wp2_with fail
    refine (less_any A B a b ca cb _ HA.out HB.out la lb).mono ?_; rintro e w' ⟨rfl, n1, rfl⟩
    go_wp2_with fail
    refine (less_any B A b a cb ca _ (HB.out.drewN n1) (HA.out.drewN n1) lb la).mono ?_; rintro e w' ⟨rfl, n2, rfl⟩
    go_wp2_with fail
    go_ret
    exact ⟨by simp [sameL, h1], _, rfl⟩
end Go.Proofs.Ytggffiikfelbjaa
