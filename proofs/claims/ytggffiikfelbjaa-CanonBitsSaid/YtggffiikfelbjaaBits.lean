/- Walk: wringerlaw21.CanonBits. -/
import Derived.Test.YtggffiikfelbjaaRefWrite
import Derived.Test.YtggffiikfelbjaaRefRead
import Derived.Test.YtggffiikfelbjaaLives21
namespace Go.Proofs.Ytggffiikfelbjaa
open Go.RowKit

def WrSet (k : Int) : Prop := k = 0 ∨ (k = 2 ∨ k = 7) ∨ (k = 1 ∨ k = 3 ∨ k = 8)
theorem stepW_set (ls : List Int) (x : Nat) (l : List Bool) : WrSet (stepW ls x l) := by
  unfold stepW WrSet
  split
  · omega
  · split
    · omega
    · split <;> omega
theorem writeL_set (ls : List Int) : ∀ (xs : List Int) (l : List Bool), WrSet (writeL ls xs l).1 := by
  intro xs
  induction xs with
  | nil => intro l; exact .inl rfl
  | cons x xs ih =>
    intro l
    rw [writeL]
    split
    · exact ih _
    · exact stepW_set _ _ _
theorem writeR_set (ls : List Int) (s : ByteArray) (n : Int) (xs : List Int) : WrSet (writeR ls s n xs).1 := by
  unfold writeR
  split
  · split
    · exact writeL_set _ _ _
    · exact .inr (.inl (.inr rfl))
  · exact .inr (.inl (.inl rfl))
theorem write_same {r : Int × List Bool} {s s1 s2 : ByteArray} {n n1 n2 : Int} (hr : WrSet r.1) (a0 : r.1 = 0 → Bs s1 n1 r.2) (a1 : r.1 = 2 ∨ r.1 = 7 → s1 = ⟨#[]⟩ ∧ n1 = 0) (a2 : r.1 = 1 ∨ r.1 = 3 ∨ r.1 = 8 → s1 = s ∧ n1 = n)
    (b0 : r.1 = 0 → Bs s2 n2 r.2) (b1 : r.1 = 2 ∨ r.1 = 7 → s2 = ⟨#[]⟩ ∧ n2 = 0) (b2 : r.1 = 1 ∨ r.1 = 3 ∨ r.1 = 8 → s2 = s ∧ n2 = n) : s1 = s2 ∧ n1 = n2 := by
  rcases hr with h | h | h
  · exact (a0 h).one (b0 h)
  · rw [(a1 h).1, (a1 h).2, (b1 h).1, (b1 h).2]; exact ⟨rfl, rfl⟩
  · rw [(a2 h).1, (a2 h).2, (b2 h).1, (b2 h).2]; exact ⟨rfl, rfl⟩
theorem Below.new {w w1 : World} {o : Obj} (h : Below (w.alloc o).heap.size (w.alloc o) w1) : Below w.heap.size w w1 := ((Below.refl _ _).alloc (Nat.le_refl _) _).trans (h.mono (by simp))

set_option maxRecDepth 100000 in
set_option maxHeartbeats 4000000 in
theorem canonBits_any (A As : Option Addr) (ls xs : List Int) (c cs : Nat) (s : ByteArray) (n a : Int) (w : World) (h : Rd w w.heap.size A (ls.map (.int .i64))) (hlen : ls.length ≤ 9223372036854775807)
    (hxs : Rd w w.heap.size As (xs.map (.int .u64))) (hxl : xs.length ≤ 9223372036854775807) (hxr : ∀ x ∈ xs, U64 x) (hn : I64 n) (hs : s.size ≤ 9223372036854775807) (ha : I64 a) :
    Calls Try.prog 4 #[bstr s n, .int .i64 a, .slice A ls.length c, .slice As xs.length cs] w fun e w' => e = .returned (.bool true) ∧ Below w.heap.size w w' := by
  have wr : ∀ W, Below w.heap.size w W → Calls Try.prog 20 #[bstr s n, .slice A ls.length c, .slice As xs.length cs] W (WriteP (writeR ls s n xs) s n W) := fun W hW =>
    cwrite_any A As ls xs c cs s n W ((h.below hW).more hW.size) ((hxs.below hW).more hW.size) hlen hxl hxr hn hs
  have rw_ : ∀ W, Below w.heap.size w W → Calls Try.prog 21 #[bstr s n, .slice A ls.length c, .slice As xs.length cs] W (WriteP (writeR ls s n xs) s n W) := fun W hW =>
    refWrite_any A As ls xs c cs s n W ((h.below hW).more hW.size) ((hxs.below hW).more hW.size) hlen hxl hxr hn hs
  have rd : ∀ W, Below w.heap.size w W → Calls Try.prog 22 #[bstr s n, .int .i64 a, .slice A ls.length c] W (NextP (readR ls s n a) W) := fun W hW => read_any A ls c s n a W ((h.below hW).more hW.size) hlen hn ha hs
  have rr : ∀ W, Below w.heap.size w W → Calls Try.prog 23 #[bstr s n, .int .i64 a, .slice A ls.length c] W (NextP (readR ls s n a) W) := fun W hW => refRead_any A ls c s n a W ((h.below hW).more hW.size) hlen hn ha hs
  have hset := writeR_set ls s n xs
  obtain ⟨R, hR⟩ : ∃ R, R = writeR ls s n xs := ⟨_, rfl⟩
  obtain ⟨D, hD⟩ : ∃ D, D = readR ls s n a := ⟨_, rfl⟩
  rw [← hR] at wr rw_ hset
  rw [← hD] at rd rr
  obtain ⟨k1, r2⟩ := R
  obtain ⟨d1, d2, d3⟩ := D
  have HWr := hide wr
  have HRw := hide rw_
  have HRd := hide rd
  have HRr := hide rr
  have HSet := hide hset
  have q1 : (k1 == k1) = true := by simp
  have q2 : (d1 == d1) = true := by simp
  have q3 : (d2 == d2) = true := by simp
  have q4 : (d3 == d3) = true := by simp
  clear h hxs hxr hn hs ha wr rw_ rd rr hset hR hD
  by_cases g : 60 < ls.length ∧ ls.length ≤ 512
  · obtain ⟨ga, gb⟩ := g
    have b1 : decide ((60 : Int) < (ls.length : Int)) = true := decide_eq_true (by omega)
    have b2 : decide ((ls.length : Int) ≤ 512) = true := decide_eq_true (by omega)
    go_enter Try.func4, Try.ntmps4
    go_wp2_with (first | (go_at_call 12; refine (lives21 _).mono ?_; rintro e w1 ⟨rfl, hb1⟩))
    go_ret
    exact ⟨rfl, Below.new hb1⟩
  · by_cases ga : 60 < ls.length
    · have b1 : decide ((60 : Int) < (ls.length : Int)) = true := decide_eq_true (by omega)
      have b2 : decide ((ls.length : Int) ≤ 512) = false := decide_eq_false (by omega)
      clear g ga
      go_enter Try.func4, Try.ntmps4
      go_wp2_with (first
        | (go_at_call 20; refine (Calls.mono (HWr.out _ ((Below.refl _ _).alloc (Nat.le_refl _) _)) ?_); rintro e w1 ⟨s1, n1, rfl, a0, a1, a2, hb1⟩; have kb1 := (Bk.new w _ _).keep hb1; have hbe1 := Below.new hb1; have hz1 := kb1.lt; have K0 := hide a0; have K1 := hide a1; have K2 := hide a2; have hbe1' := hbe1.alloc (Nat.le_of_lt hz1) (.cells #[.string s1, .int .i64 n1] 35); have kb1' := kb1.alloc (.cells #[.string s1, .int .i64 n1] 35); obtain ⟨p0, p1⟩ := two_cells kb1'; clear a0 a1 a2 hb1)
        | (go_at_call 21; refine (Calls.mono (HRw.out _ hbe1') ?_); rintro e w2 ⟨s2, n2, rfl, b0, b1, b2, hb2⟩; obtain ⟨rfl, rfl⟩ := write_same HSet.out K0.out K1.out K2.out b0 b1 b2; have kb2 := kb1'.keep hb2; have kx2 := (Bk.new w1 _ _).keep hb2; have hbe2 := hbe1'.trans (hb2.mono hbe1'.size); have hz2 := kx2.lt; have hbe2' := hbe2.alloc (by omega) (.cells #[.string s1, .int .i64 n1] 35); have kb2' := kb2.alloc (.cells #[.string s1, .int .i64 n1] 35); have kx2' := kx2.alloc (.cells #[.string s1, .int .i64 n1] 35); obtain ⟨p2, p3⟩ := two_cells kb2'; clear b0 b1 b2 hb2)
        | (go_at_call 22; refine (Calls.mono (HRd.out _ hbe2') ?_); rintro e w3 ⟨rfl, hb3⟩; have kb3 := kb2'.keep hb3; have kx3 := kx2'.keep hb3; have ky3 := (Bk.new w2 _ _).keep hb3; have hbe3 := hbe2'.trans (hb3.mono hbe2'.size); obtain ⟨p4, p5⟩ := two_cells kb3; clear hb3)
        | (go_at_call 23; refine (Calls.mono (HRr.out _ hbe3) ?_); rintro e w4 ⟨rfl, hb4⟩; have kx4 := kx3.keep hb4; have ky4 := ky3.keep hb4; have hbe4 := hbe3.trans (hb4.mono hbe3.size); clear hb4)
        | (go_at_call 12; refine (lives21 _).mono ?_; rintro e w5 ⟨rfl, hb5⟩; have hbe5 := hbe4.trans (hb5.mono hbe4.size); obtain ⟨p6, p7⟩ := two_cells (kx4.keep hb5); obtain ⟨p8, p9⟩ := two_cells (ky4.keep hb5); clear hb5))
      go_ret
      exact ⟨rfl, hbe5⟩
    · have b1 : decide ((60 : Int) < (ls.length : Int)) = false := decide_eq_false (by omega)
      clear g ga
      go_enter Try.func4, Try.ntmps4
      go_wp2_with (first
        | (go_at_call 20; refine (Calls.mono (HWr.out _ ((Below.refl _ _).alloc (Nat.le_refl _) _)) ?_); rintro e w1 ⟨s1, n1, rfl, a0, a1, a2, hb1⟩; have kb1 := (Bk.new w _ _).keep hb1; have hbe1 := Below.new hb1; have hz1 := kb1.lt; have K0 := hide a0; have K1 := hide a1; have K2 := hide a2; have hbe1' := hbe1.alloc (Nat.le_of_lt hz1) (.cells #[.string s1, .int .i64 n1] 35); have kb1' := kb1.alloc (.cells #[.string s1, .int .i64 n1] 35); obtain ⟨p0, p1⟩ := two_cells kb1'; clear a0 a1 a2 hb1)
        | (go_at_call 21; refine (Calls.mono (HRw.out _ hbe1') ?_); rintro e w2 ⟨s2, n2, rfl, b0, b1, b2, hb2⟩; obtain ⟨rfl, rfl⟩ := write_same HSet.out K0.out K1.out K2.out b0 b1 b2; have kb2 := kb1'.keep hb2; have kx2 := (Bk.new w1 _ _).keep hb2; have hbe2 := hbe1'.trans (hb2.mono hbe1'.size); have hz2 := kx2.lt; have hbe2' := hbe2.alloc (by omega) (.cells #[.string s1, .int .i64 n1] 35); have kb2' := kb2.alloc (.cells #[.string s1, .int .i64 n1] 35); have kx2' := kx2.alloc (.cells #[.string s1, .int .i64 n1] 35); obtain ⟨p2, p3⟩ := two_cells kb2'; clear b0 b1 b2 hb2)
        | (go_at_call 22; refine (Calls.mono (HRd.out _ hbe2') ?_); rintro e w3 ⟨rfl, hb3⟩; have kb3 := kb2'.keep hb3; have kx3 := kx2'.keep hb3; have ky3 := (Bk.new w2 _ _).keep hb3; have hbe3 := hbe2'.trans (hb3.mono hbe2'.size); obtain ⟨p4, p5⟩ := two_cells kb3; clear hb3)
        | (go_at_call 23; refine (Calls.mono (HRr.out _ hbe3) ?_); rintro e w4 ⟨rfl, hb4⟩; have kx4 := kx3.keep hb4; have ky4 := ky3.keep hb4; have hbe4 := hbe3.trans (hb4.mono hbe3.size); clear hb4)
        | (go_at_call 12; refine (lives21 _).mono ?_; rintro e w5 ⟨rfl, hb5⟩; have hbe5 := hbe4.trans (hb5.mono hbe4.size); obtain ⟨p6, p7⟩ := two_cells (kx4.keep hb5); obtain ⟨p8, p9⟩ := two_cells (ky4.keep hb5); clear hb5))
      go_ret
      exact ⟨rfl, hbe5⟩
end Go.Proofs.Ytggffiikfelbjaa
