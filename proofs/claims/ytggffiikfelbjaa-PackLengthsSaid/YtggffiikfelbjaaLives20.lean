/- Walk: wringerlaw20.lives: it answers true. -/
import Derived.Test.YtggffiikfelbjaaPackOK
import Derived.Test.YtggffiikfelbjaaLengths
import Derived.Test.YtggffiikfelbjaaSame05
namespace Go.Proofs.Ytggffiikfelbjaa
open Go.RowKit

theorem bkRd {w : World} {g : Nat} {t : TypeId} {xs : List Value} (h : Bk w g t xs.toArray) : Rd w w.heap.size (some ⟨g, 0, none⟩) xs := fun i u hu =>
  ⟨g, 0, rfl, h.lt, by rw [Nat.zero_add, h.cell i, List.getElem?_toArray]; exact hu⟩
theorem pv1 : packW [1, 1, 2, 4] 15 = 0 ∧ packL [1, 1, 2, 4] 15 = [3, 3, 2, 1] := by decide +kernel
theorem pv2 : packW [1, 1, 2, 4] 2 = 0 ∧ packL [1, 1, 2, 4] 2 = [2, 2, 2, 2] := by decide +kernel
theorem pv3 : packW [1, 1, 2, 4] 1 = 8 := by decide +kernel
theorem pv4 : costW [1, 1, 2, 4] [3, 3, 2, 1] = 0 ∧ costN [1, 1, 2, 4] [3, 3, 2, 1] = 14 := by decide +kernel
theorem pv5 : costW [1, 1, 2, 4] [] = 5 ∧ costN [1, 1, 2, 4] [] = 0 := by decide +kernel
theorem pv6 : roomW [3, 3, 2, 1] 3 = 0 ∧ roomN [3, 3, 2, 1] 3 = 0 := by decide +kernel
/-- Lengths, where it answers. -/
theorem lengths_yes (A : Option Addr) (ws : List Int) (ca : Nat) (lim : Int) (w : World) (hA : Rd w w.heap.size A (ws.map (.int .u64))) (hla : ws.length ≤ 9223372036854775807) (hws : ∀ x ∈ ws, 0 ≤ x) (hlim : I64 lim) (h0 : packW ws lim = 0) :
    Calls Try.prog 26 #[.slice A ws.length ca, .int .i64 lim] w fun e w' => (∃ A' c, e = .returned (.tuple #[.slice A' ws.length c, .int .i64 0]) ∧ Rd w' w'.heap.size A' (((packL ws lim.toNat).map Int.ofNat).map (.int .i64)) ∧ ∀ a, A' = some a → w.heap.size ≤ a.block) ∧ Below w.heap.size w w' := by
  refine Calls.mono (lengths_any A ws ca lim w hA hla hws hlim) ?_
  rintro e w' ⟨hb, ⟨_, A', c, rfl, hr, hf⟩ | ⟨hne, _⟩⟩
  · refine ⟨⟨A', c, rfl, ?_, hf⟩, hb⟩
    rw [List.map_map]; exact hr
  · exact absurd h0 hne
theorem lengths_no (A : Option Addr) (ws : List Int) (ca : Nat) (lim : Int) (w : World) (hA : Rd w w.heap.size A (ws.map (.int .u64))) (hla : ws.length ≤ 9223372036854775807) (hws : ∀ x ∈ ws, 0 ≤ x) (hlim : I64 lim) {k : Int} (h0 : packW ws lim = k) (hk : k ≠ 0) :
    Calls Try.prog 26 #[.slice A ws.length ca, .int .i64 lim] w fun e w' => e = .returned (.tuple #[.slice none 0 0, .int .i64 k]) ∧ Below w.heap.size w w' := by
  refine Calls.mono (lengths_any A ws ca lim w hA hla hws hlim) ?_
  rintro e w' ⟨hb, ⟨h, _⟩ | ⟨_, rfl⟩⟩
  · rw [h0] at h; exact absurd h hk
  · rw [h0]; exact ⟨rfl, hb⟩

set_option maxRecDepth 100000 in
set_option maxHeartbeats 4000000 in
theorem lives20 (w : World) : Calls Try.prog 25 #[] w fun e w' => e = .returned (.bool true) ∧ Below w.heap.size w w' := by
  have h0 : ∀ x ∈ ([1, 1, 2, 4] : List Int), 0 ≤ x := by decide
  go_enter Try.func25, Try.ntmps25
  go_wp2_with fail
  have kw0 := Bk.new w 23 #[.int .u64 1, .int .u64 1, .int .u64 2, .int .u64 4]
  refine (lengths_yes (some ⟨w.heap.size, 0, none⟩) [1, 1, 2, 4] 4 15 _ (bkRd kw0) (by decide) h0 ⟨by omega, by omega⟩ pv1.1).mono ?_
  rintro e w1 ⟨⟨A1, c1, rfl, hr1, _⟩, hb1⟩
  rw [show (15 : Int).toNat = 15 from rfl, pv1.2] at hr1
  have be1 : Below w.heap.size w w1 := ((Below.refl _ _).alloc (Nat.le_refl _) _).trans (hb1.mono (by simp))
  have kw1 := kw0.keep hb1
  obtain ⟨b1, o1, hA1, hbb1, _⟩ := hr1 0 (.int .i64 3) rfl
  subst hA1
  clear hb1 kw0
  go_wp2_with fail
  refine (lengths_yes (some ⟨w.heap.size, 0, none⟩) [1, 1, 2, 4] 4 2 _ (bkRd kw1) (by decide) h0 ⟨by omega, by omega⟩ pv2.1).mono ?_
  rintro e w2 ⟨⟨A2, c2, rfl, hr2, _⟩, hb2⟩
  rw [show (2 : Int).toNat = 2 from rfl, pv2.2] at hr2
  have be2 := be1.trans (hb2.mono be1.size)
  have kw2 := kw1.keep hb2
  have hr12 := (hr1.below hb2).more hb2.size
  clear hb2 kw1 hr1 be1
  go_wp2_with fail
  refine (cost_any (some ⟨w.heap.size, 0, none⟩) (some ⟨b1, o1, none⟩) [1, 1, 2, 4] [3, 3, 2, 1] 4 c1 _ (bkRd kw2) hr12 (by decide) (by decide) h0 (by intro x hx; simp at hx; rcases hx with rfl | rfl | rfl <;> exact ⟨by omega, by omega⟩)).mono ?_
  rintro e w3 ⟨rfl, rfl⟩
  rw [pv4.1, pv4.2]
  go_wp2_with fail
  refine (room_any (some ⟨b1, o1, none⟩) [3, 3, 2, 1] c1 3 _ hr12 (by decide) ⟨by omega, by omega⟩).mono ?_
  rintro e w4 ⟨rfl, rfl⟩
  rw [pv6.1, pv6.2]
  go_wp2_with fail
  refine (lengths_no (some ⟨w.heap.size, 0, none⟩) [1, 1, 2, 4] 4 1 _ (bkRd kw2) (by decide) h0 ⟨by omega, by omega⟩ pv3 (by decide)).mono ?_
  rintro e w5 ⟨rfl, hb5⟩
  have be5 := be2.trans (hb5.mono be2.size)
  have kw5 := kw2.keep hb5
  have hr15 := (hr12.below hb5).more hb5.size
  have hr25 := (hr2.below hb5).more hb5.size
  clear hb5 kw2 hr12 hr2 be2
  go_wp2_with fail
  refine (cost_any (some ⟨w.heap.size, 0, none⟩) (some ⟨b1, o1, none⟩) [1, 1, 2, 4] [] 4 c1 _ (bkRd kw5) Rd.nil_ (by decide) (by decide) h0 (by simp)).mono ?_
  rintro e w6 ⟨rfl, rfl⟩
  rw [pv5.1, pv5.2]
  go_wp2_with fail
  have be6 := be5.size
  refine (sameNumbers_any (some ⟨b1, o1, none⟩) (some ⟨w6.heap.size, 0, none⟩) [3, 3, 2, 1] [3, 3, 2, 1] c1 4 _ ((hr15.alloc (Nat.le_refl _) _).more (by simp)) (bkRd (Bk.new w6 3 #[.int .i64 3, .int .i64 3, .int .i64 2, .int .i64 1])) (by decide) (by decide)).mono ?_
  rintro e w7 ⟨rfl, j7, rfl⟩
  rw [decide_eq_true rfl]
  have be7 := below_drewN (be5.alloc be6 (.cells #[.int .i64 3, .int .i64 3, .int .i64 2, .int .i64 1] 3)) j7
  have hr27 : Rd ((w6.alloc (.cells #[.int .i64 3, .int .i64 3, .int .i64 2, .int .i64 1] 3)).drewN j7) w6.heap.size A2 _ := (hr25.alloc (Nat.le_refl _) _).drewN j7
  obtain ⟨W7, hW7⟩ : ∃ W7, W7 = (w6.alloc (.cells #[.int .i64 3, .int .i64 3, .int .i64 2, .int .i64 1] 3)).drewN j7 := ⟨_, rfl⟩
  have hsz7 : w6.heap.size ≤ W7.heap.size := by rw [hW7]; simp
  rw [← hW7] at be7 hr27 ⊢
  clear hW7
  go_wp2_with fail
  have be7s := be7.size
  refine (sameNumbers_any A2 (some ⟨W7.heap.size, 0, none⟩) [2, 2, 2, 2] [2, 2, 2, 2] c2 4 _ ((hr27.alloc hsz7 _).more (by simp; omega)) (bkRd (Bk.new W7 3 #[.int .i64 2, .int .i64 2, .int .i64 2, .int .i64 2])) (by decide) (by decide)).mono ?_
  rintro e w8 ⟨rfl, j8, rfl⟩
  rw [decide_eq_true rfl]
  go_wp2_with fail
  go_ret
  exact ⟨rfl, below_drewN (be7.alloc be7s _) j8⟩
#print axioms lives20
end Go.Proofs.Ytggffiikfelbjaa
