/- Walk: wringerlaw21.lives: it answers true. -/
import Derived.Test.YtggffiikfelbjaaCWrite
import Derived.Test.YtggffiikfelbjaaRead
namespace Go.Proofs.Ytggffiikfelbjaa
open Go.RowKit

/-- A row that is known whole, read as a slice. -/
theorem Bk.rd {w : World} {g : Nat} {t : TypeId} {xs : List Value} (h : Bk w g t xs.toArray) : Rd w w.heap.size (some ⟨g, 0, none⟩) xs := fun i u hu =>
  ⟨g, 0, rfl, h.lt, by rw [Nat.zero_add, h.cell i, List.getElem?_toArray]; exact hu⟩

theorem ev1 : okL [2, 1, 0, 2] = true := by decide +kernel
theorem ev2 : codesL [2, 1, 0, 2] = [2, 0, 0, 3] := by decide +kernel
theorem ev2' : okW [2, 1, 0, 2] = 0 := by decide +kernel
theorem ev3 : writeR [2, 1, 0, 2] ⟨#[]⟩ 0 [3, 1, 0] = (0, [true, true, false, true, false]) := by decide +kernel
theorem ev4 : readR [2, 1, 0, 2] ⟨#[208]⟩ 5 2 = (1, 3, 0) := by decide +kernel
theorem ev5 : findR [2, 1, 0, 2] 2 2 = (0, 0) := by decide +kernel
theorem ev6 : writeR [2, 1, 0, 2] ⟨#[208]⟩ 5 [2] = (3, []) := by decide +kernel
theorem ev7 : readR [2, 1, 0, 2] ⟨#[208]⟩ 5 4 = (1, 5, 0) := by decide +kernel
theorem ev8 : readR [1] ⟨#[128]⟩ 1 0 = (0, 0, 7) := by decide +kernel
theorem ev9 : okW [1, 1, 1] = 7 := by decide +kernel
theorem evb : Bs ⟨#[208]⟩ 5 [true, true, false, true, false] := by
  refine ⟨?_, ?_, ?_⟩ <;> decide +kernel

set_option maxRecDepth 100000 in
set_option maxHeartbeats 4000000 in
theorem lives21 (w : World) : Calls Try.prog 12 #[] w fun e w' => e = .returned (.bool true) ∧ Below w.heap.size w w' := by
  go_enter Try.func12, Try.ntmps12
  go_wp2_with fail
  have kl0 := Bk.new w 3 #[.int .i64 2, .int .i64 1, .int .i64 0, .int .i64 2]
  refine (codes_any (some ⟨w.heap.size, 0, none⟩) [2, 1, 0, 2] 4 _ kl0.rd (by decide)).mono ?_
  rintro e w1 ⟨A1, c1, rfl, hrd1, hb1⟩
  rw [ev2] at hrd1
  rw [ev2, ev2']
  have kl1 := kl0.keep hb1
  have hz1 : w.heap.size < w1.heap.size := kl1.lt
  have be1 : Below w.heap.size w w1 := ((Below.refl _ _).alloc (Nat.le_refl _) _).trans (hb1.mono (by simp))
  clear kl0 hb1
  go_wp2_with fail
  refine (cwrite_any (some ⟨w.heap.size, 0, none⟩) (some ⟨w1.heap.size, 0, none⟩) [2, 1, 0, 2] [3, 1, 0] 4 3 ⟨#[]⟩ 0 _ ((kl1.alloc _).rd) (Bk.new w1 _ _).rd (by decide) (by decide) (by simp [U64]) ⟨by omega, by omega⟩ (by decide)).mono ?_
  rintro e w2 ⟨s2, n2, rfl, hbs, _, _, hb2⟩
  rw [ev3] at hbs ⊢
  obtain ⟨rfl, rfl⟩ := (hbs rfl).one evb
  have kl2 := (kl1.alloc _).keep hb2
  have hrd2 := ((hrd1.alloc (Nat.le_refl _) _).below (hb2.mono (by simp)))
  have be2 : Below w.heap.size w w2 := (be1.alloc (by omega) _).trans (hb2.mono (by simp; omega))
  have hz2 : w1.heap.size < w2.heap.size := by have := hb2.size; simp at this; omega
  clear hbs hb2 kl1 be1
  go_wp2_with fail
  refine (read_any (some ⟨w.heap.size, 0, none⟩) [2, 1, 0, 2] 4 ⟨#[208]⟩ 5 2 _ ((kl2.alloc _).rd) (by decide) ⟨by omega, by omega⟩ ⟨by omega, by omega⟩ (by decide)).mono ?_
  rintro e w3 ⟨rfl, hb3⟩
  rw [ev4]
  have kb3 := (Bk.new w2 35 #[.string ⟨#[208]⟩, .int .i64 5]).keep hb3
  have kl3 := (kl2.alloc _).keep hb3
  have hrd3 := ((hrd2.alloc (by omega) _).below (hb3.mono (by simp; omega)))
  have be3 : Below w.heap.size w w3 := (be2.alloc (by omega) _).trans (hb3.mono (by simp; omega))
  have hz3 : w2.heap.size < w3.heap.size := kb3.lt
  clear hb3 kl2 hrd2 be2
  go_wp2_with fail
  refine (cfind_any (some ⟨w.heap.size, 0, none⟩) [2, 1, 0, 2] 4 2 2 _ kl3.rd (by decide) ⟨by omega, by omega⟩ ⟨by omega, by omega⟩).mono ?_
  rintro e w4 ⟨rfl, hb4⟩
  rw [ev5]
  have kb4 := kb3.keep hb4
  have kl4 := kl3.keep hb4
  have hrd4 := hrd3.below (hb4.mono (by omega))
  have be4 : Below w.heap.size w w4 := be3.trans (hb4.mono (by omega))
  have hz4 : w2.heap.size < w4.heap.size := kb4.lt
  obtain ⟨p40, p41⟩ := two_cells kb4
  clear hb4 kl3 hrd3 be3 kb3
  go_wp2_with fail
  refine (cwrite_any (some ⟨w.heap.size, 0, none⟩) (some ⟨w4.heap.size, 0, none⟩) [2, 1, 0, 2] [2] 4 1 ⟨#[208]⟩ 5 _ ((kl4.alloc _).rd) (Bk.new w4 _ _).rd (by decide) (by decide) (by simp [U64]) ⟨by omega, by omega⟩ (by decide)).mono ?_
  rintro e w5 ⟨s5, n5, rfl, _, _, _, hb5⟩
  rw [ev6]
  have kb5 := (kb4.alloc _).keep hb5
  have kl5 := (kl4.alloc _).keep hb5
  have hrd5 := ((hrd4.alloc (by omega) _).below (hb5.mono (by simp; omega)))
  have be5 : Below w.heap.size w w5 := (be4.alloc (by omega) _).trans (hb5.mono (by simp; omega))
  have hz5 : w2.heap.size < w5.heap.size := kb5.lt
  obtain ⟨p50, p51⟩ := two_cells kb5
  clear hb5 kl4 hrd4 be4 kb4 p40 p41
  go_wp2_with fail
  refine (read_any (some ⟨w.heap.size, 0, none⟩) [2, 1, 0, 2] 4 ⟨#[208]⟩ 5 4 _ (kl5.alloc _).rd (by decide) ⟨by omega, by omega⟩ ⟨by omega, by omega⟩ (by decide)).mono ?_
  rintro e w6 ⟨rfl, hb6⟩
  rw [ev7]
  have kb6 := (kb5.alloc _).keep hb6
  have kl6 := (kl5.alloc _).keep hb6
  have hrd6 := (hrd5.alloc (by omega) _).below (hb6.mono (by simp; omega))
  have be6 : Below w.heap.size w w6 := (be5.alloc (by omega) _).trans (hb6.mono (by simp; omega))
  have hz6 : w2.heap.size < w6.heap.size := kb6.lt
  clear hb6 kl5 hrd5 be5 kb5 p50 p51
  go_wp2_with fail
  refine (read_any (some ⟨w6.heap.size, 0, none⟩) [1] 1 ⟨#[128]⟩ 1 0 _ (Bk.new w6 _ _).rd (by decide) ⟨by omega, by omega⟩ ⟨by omega, by omega⟩ (by decide)).mono ?_
  rintro e w7 ⟨rfl, hb7⟩
  rw [ev8]
  have kb7 := (kb6.alloc _).keep hb7
  have kl7 := (kl6.alloc _).keep hb7
  have hrd7 := ((hrd6.alloc (by omega) _).below (hb7.mono (by simp; omega)))
  have be7 : Below w.heap.size w w7 := (be6.alloc (by omega) _).trans (hb7.mono (by simp; omega))
  have hz7 : w2.heap.size < w7.heap.size := kb7.lt
  clear hb7 kl6 hrd6 be6 kb6
  go_wp2_with fail
  refine (sameOne_any A1 (some ⟨w7.heap.size, 0, none⟩) [2, 0, 0, 3] [2, 0, 0, 3] c1 4 _ ((hrd7.alloc (by omega) _).more (by simp; omega)) (Bk.new w7 _ _).rd (by decide) (by decide)).mono ?_
  rintro e w8 ⟨rfl, j8, rfl⟩
  rw [sameL_eq rfl]
  have kb8 := kb7.alloc (.cells #[.int .u64 2, .int .u64 0, .int .u64 0, .int .u64 3] 23)
  obtain ⟨p80, p81⟩ := two_cells kb8
  go_wp2_with fail
  have k9 : Bk (((w7.alloc (.cells #[.int .u64 2, .int .u64 0, .int .u64 0, .int .u64 3] 23)).drewN j8).alloc (.cells #[.int .i64 1, .int .i64 1, .int .i64 1] 3)) (w7.heap.size + 1) 3 #[.int .i64 1, .int .i64 1, .int .i64 1] := Bk.new1 w7 _ _ _
  have kl9 := ((kl7.alloc (.cells #[.int .u64 2, .int .u64 0, .int .u64 0, .int .u64 3] 23)).drewN j8).alloc (.cells #[.int .i64 1, .int .i64 1, .int .i64 1] 3)
  refine (canonCheck_any (some ⟨w7.heap.size + 1, 0, none⟩) [1, 1, 1] 3 _ k9.rd (by decide)).mono ?_
  rintro e w9 ⟨rfl, rfl⟩
  rw [ev9]
  go_wp2_with fail
  refine (canonCheck_any (some ⟨w.heap.size, 0, none⟩) [2, 1, 0, 2] 4 _ kl9.rd (by decide)).mono ?_
  rintro e w10 ⟨rfl, rfl⟩
  rw [ev2']
  go_wp2_with fail
  go_ret
  exact ⟨rfl, (below_drewN (be7.alloc (by omega) _) j8).alloc (by simp; omega) _⟩
end Go.Proofs.Ytggffiikfelbjaa
