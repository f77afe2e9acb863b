/- Walk: wringerlaw22.lives: it answers true. -/
import Derived.Test.YtggffiikfelbjaaDoorTabJ
import Derived.Test.YtggffiikfelbjaaDoorSame05
namespace Go.Proofs.YtggffiikfelbjaaDoor
open Go.RowKit

/-- A row that is known whole, read as a slice. -/
theorem Bk.rd {w : World} {g : Nat} {t : TypeId} {xs : List Value} (h : Bk w g t xs.toArray) : Rd w w.heap.size (some ⟨g, 0, none⟩) xs := fun i u hu =>
  ⟨g, 0, rfl, h.lt, by rw [Nat.zero_add, h.cell i, List.getElem?_toArray]; exact hu⟩

theorem tv1 : tabR [1, 1] ⟨#[]⟩ 0 = (0, [false, false, false, true, false, false]) := by decide +kernel
theorem tv2 : treadX ⟨#[16]⟩ 6 0 2 = (0, [1, 1], []) := by decide +kernel
theorem tv3 : tabW [2, 1, 0, 2] = 0 := by decide +kernel
theorem tv4 : (tabBits [2, 1, 0, 2]).length = 16 := by decide +kernel
theorem tv5 : tabR [1, 1, 1] ⟨#[16]⟩ 6 = (7, []) := by decide +kernel
theorem tv6 : treadX ⟨#[16]⟩ 6 0 3 = (5, [], []) := by decide +kernel
theorem tv7 : tabW [] = 7 := by decide +kernel
theorem tvb : Bs ⟨#[16]⟩ 6 [false, false, false, true, false, false] := by
  refine ⟨?_, ?_, ?_⟩ <;> decide +kernel

set_option maxRecDepth 100000 in
set_option maxHeartbeats 4000000 in
theorem lives22 (q0 q1 : Addr) (w : World) (hS : Sent2 w q0 q1) : Calls Tryd.prog 5 #[] w fun e w' => e = .returned (.bool true) ∧ Below w.heap.size w w' := by
  go_enter Tryd.func5, Tryd.ntmps5
  go_wp2_with fail
  have kl0 := Bk.new w 3 #[.int .i64 1, .int .i64 1]
  refine (twrite_any (some ⟨w.heap.size, 0, none⟩) [1, 1] 2 ⟨#[]⟩ 0 _ kl0.rd (by decide) ⟨by omega, by omega⟩ (by decide)).mono ?_
  rintro e w1 ⟨s1, n1, rfl, h1, hb1⟩
  rw [tv1] at h1
  rw [tv1]
  obtain ⟨rfl, rfl⟩ : s1 = ⟨#[16]⟩ ∧ n1 = 6 := by
    rcases h1 with ⟨_, h⟩ | ⟨h, _⟩ | ⟨h, _⟩
    · exact h.one tvb
    · rcases h with h | h <;> cases h
    · cases h
  have be1 : Below w.heap.size w w1 := ((Below.refl _ _).alloc (Nat.le_refl _) _).trans (hb1.mono (by simp))
  have hz1 := be1.size
  clear h1 hb1 kl0
  go_wp2_with fail
  have kb1 := Bk.new w1 23 #[.string ⟨#[16]⟩, .int .i64 6]
  have be1' := be1.alloc hz1 (.cells #[.string ⟨#[16]⟩, .int .i64 6] 23)
  refine (tread_any ⟨#[16]⟩ 6 0 2 q0 q1 _ (hS.below be1' (Nat.le_refl _)) ⟨by omega, by omega⟩ ⟨by omega, by omega⟩ ⟨by omega, by omega⟩ (by decide)).mono ?_
  rintro e w2 ⟨hb2, h2⟩
  rw [tv2] at h2
  obtain ⟨a2, c2, g2, ha2, hr2, rfl, hg2, hk2⟩ : ∃ (a c g : Nat), a ≤ 6 ∧ [] = (bitsL ⟨#[16]⟩ 6).drop a ∧ e = .returned (.tuple #[.slice (some ⟨g, 0, none⟩) 2 c, .int .i64 a, .int .i64 0]) ∧ (w1.alloc (.cells #[.string ⟨#[16]⟩, .int .i64 6] 23)).heap.size ≤ g ∧ Bk w2 g 3 #[.int .i64 1, .int .i64 1] := by
    rcases h2 with ⟨_, h⟩ | ⟨h, _⟩
    · exact h
    · exact absurd rfl h
  obtain rfl : a2 = 6 := by
    have := congrArg List.length hr2
    rw [List.length_drop, bitsL_length] at this
    simp at this; omega
  have be2 := be1'.trans (hb2.mono (by simp; omega))
  have kb2 := kb1.keep hb2
  have hz2 := be2.size
  clear hr2 h2 hb2 kb1 be1' be1 hz1
  go_wp2_with fail
  have k3 := Bk.new w2 3 #[.int .i64 2, .int .i64 1, .int .i64 0, .int .i64 2]
  refine (tsize_any (some ⟨w2.heap.size, 0, none⟩) [2, 1, 0, 2] 4 _ k3.rd (by decide)).mono ?_
  rintro e w3 ⟨rfl, j3, rfl⟩
  rw [if_pos tv3, tv3, tv4]
  have kb3 := (kb2.alloc (.cells #[.int .i64 2, .int .i64 1, .int .i64 0, .int .i64 2] 3)).drewN j3
  have kk3 := (hk2.alloc (.cells #[.int .i64 2, .int .i64 1, .int .i64 0, .int .i64 2] 3)).drewN j3
  have be3 := below_drewN (be2.alloc hz2 (.cells #[.int .i64 2, .int .i64 1, .int .i64 0, .int .i64 2] 3)) j3
  obtain ⟨p30, p31⟩ := two_cells kb3
  have hq3 := kb3.lt
  obtain ⟨W3, hW3⟩ : ∃ W3, W3 = (w2.alloc (.cells #[.int .i64 2, .int .i64 1, .int .i64 0, .int .i64 2] 3)).drewN j3 := ⟨_, rfl⟩
  rw [← hW3] at kb3 kk3 be3 p30 p31 hq3 ⊢
  have hz3 := be3.size
  clear hW3 kb2 hk2 be2 k3
  go_wp2_with fail
  have k4 := Bk.new W3 3 #[.int .i64 1, .int .i64 1, .int .i64 1]
  refine (twrite_any (some ⟨W3.heap.size, 0, none⟩) [1, 1, 1] 3 ⟨#[16]⟩ 6 _ k4.rd (by decide) ⟨by omega, by omega⟩ (by decide)).mono ?_
  rintro e w4 ⟨s4, n4, rfl, h4, hb4⟩
  rw [tv5] at h4
  rw [tv5]
  obtain ⟨rfl, rfl⟩ : s4 = ⟨#[]⟩ ∧ n4 = 0 := by
    rcases h4 with ⟨h, _⟩ | ⟨_, h⟩ | ⟨h, _⟩
    · cases h
    · exact h
    · cases h
  have be4 := (be3.alloc hz3 (.cells #[.int .i64 1, .int .i64 1, .int .i64 1] 3)).trans (hb4.mono (by simp; omega))
  have kb4 := (kb3.alloc _).keep hb4
  have kk4 := (kk3.alloc _).keep hb4
  have hz4 := be4.size
  obtain ⟨p40, p41⟩ := two_cells kb4
  have hq4 := kb4.lt
  clear h4 hb4 kb3 kk3 be3 p30 p31 k4
  go_wp2_with fail
  have be4' := be4.alloc hz4 (.cells #[.string ⟨#[]⟩, .int .i64 0] 23)
  refine (tread_any ⟨#[16]⟩ 6 0 3 q0 q1 _ (hS.below be4' (Nat.le_refl _)) ⟨by omega, by omega⟩ ⟨by omega, by omega⟩ ⟨by omega, by omega⟩ (by decide)).mono ?_
  rintro e w5 ⟨hb5, h5⟩
  rw [tv6] at h5
  obtain rfl : e = .returned (.tuple #[.slice none 0 0, .int .i64 0, .int .i64 5]) := by
    rcases h5 with ⟨h, _⟩ | ⟨_, h⟩
    · cases h
    · exact h
  have be5 := be4'.trans (hb5.mono (by simp; omega))
  have kb5 := (kb4.alloc _).keep hb5
  have kk5 := (kk4.alloc _).keep hb5
  have hz5 := be5.size
  obtain ⟨p50, p51⟩ := two_cells kb5
  have hq5 := kb5.lt
  clear h5 hb5 kb4 kk4 be4 be4' p40 p41
  go_wp2_with fail
  refine (tsize_any none [] 0 _ Rd.nil_ (by decide)).mono ?_
  rintro e w6 ⟨rfl, j6, rfl⟩
  rw [tv7]
  have kb6 := kb5.drewN j6
  have kk6 := kk5.drewN j6
  have be6 := below_drewN be5 j6
  obtain ⟨p60, p61⟩ := two_cells kb6
  have hq6 := kb6.lt
  obtain ⟨W6, hW6⟩ : ∃ W6, W6 = w5.drewN j6 := ⟨_, rfl⟩
  rw [← hW6] at kb6 kk6 be6 p60 p61 hq6 ⊢
  have hz6 := be6.size
  clear hW6 kb5 kk5 be5 p50 p51
  go_wp2_with fail
  have k7 := Bk.new W6 3 #[.int .i64 1, .int .i64 1]
  refine (sameNumbers_any (some ⟨g2, 0, none⟩) (some ⟨W6.heap.size, 0, none⟩) [1, 1] [1, 1] c2 2 _ (kk6.alloc _).rd k7.rd (by decide) (by decide)).mono ?_
  rintro e w7 ⟨rfl, j7, rfl⟩
  go_wp2_with fail
  go_ret
  exact ⟨rfl, below_drewN (be6.alloc hz6 _) j7⟩
#print axioms lives22
end Go.Proofs.YtggffiikfelbjaaDoor
