/- Walk: the law TableCut. -/
import Derived.Test.YtggffiikfelbjaaDoorTabK
import Derived.Test.YtggffiikfelbjaaDoorLives22
namespace Go.Proofs.YtggffiikfelbjaaDoor
open Go.RowKit

theorem right_empty : rightB ⟨#[]⟩ 0 = true := by decide +kernel
theorem tabR_zero {ls : List Int} (h : tabW ls = 0) : tabR ls ⟨#[]⟩ 0 = (0, tabBits ls) := by
  have := tabBits_length_le (tabW_zero h).1
  unfold tabR
  rw [if_pos right_empty, if_pos h, if_neg (by omega)]; rfl
theorem tabR_no {ls : List Int} (h : tabW ls ≠ 0) : tabR ls ⟨#[]⟩ 0 = (7, []) := by
  unfold tabR
  rw [if_pos right_empty, if_neg h, tabW_seven h]
theorem twrite_no (A : Option Addr) (ls : List Int) (c : Nat) (w : World) (h : Rd w w.heap.size A (ls.map (.int .i64))) (hlen : ls.length ≤ 9223372036854775807) (h0 : tabW ls ≠ 0) :
    Calls Tryd.prog 6 #[bstr ⟨#[]⟩ 0, .slice A ls.length c] w fun e w' => e = .returned (.tuple #[bstr ⟨#[]⟩ 0, .int .i64 7]) ∧ Below w.heap.size w w' := by
  refine Calls.mono (twrite_any A ls c ⟨#[]⟩ 0 w h hlen ⟨by omega, by omega⟩ (by decide)) ?_
  rintro e w' ⟨s', n', rfl, hc, hb⟩
  rw [tabR_no h0] at hc ⊢
  rcases hc with ⟨hc, _⟩ | ⟨_, rfl, rfl⟩ | ⟨hc, _⟩
  · cases hc
  · exact ⟨rfl, hb⟩
  · cases hc
theorem twrite_yes (A : Option Addr) (ls : List Int) (c : Nat) (w : World) (h : Rd w w.heap.size A (ls.map (.int .i64))) (hlen : ls.length ≤ 9223372036854775807) (h0 : tabW ls = 0) :
    Calls Tryd.prog 6 #[bstr ⟨#[]⟩ 0, .slice A ls.length c] w fun e w' => (∃ s, e = .returned (.tuple #[bstr s (tabBits ls).length, .int .i64 0]) ∧ Bs s (tabBits ls).length (tabBits ls)) ∧ Below w.heap.size w w' := by
  refine Calls.mono (twrite_any A ls c ⟨#[]⟩ 0 w h hlen ⟨by omega, by omega⟩ (by decide)) ?_
  rintro e w' ⟨s', n', rfl, hc, hb⟩
  rw [tabR_zero h0] at hc ⊢
  rcases hc with ⟨_, hc⟩ | ⟨hc, _⟩ | ⟨hc, _⟩
  · obtain rfl := hc.2.1
    exact ⟨⟨s', rfl, hc⟩, hb⟩
  · rcases hc with hc | hc <;> cases hc
  · cases hc
theorem cut_no (s : ByteArray) (n a c : Int) (w : World) (hn : I64 n) (ha : I64 a) (hc : I64 c) (hs : s.size ≤ 9223372036854775807) {k : Int} (h : cutW s n a c = k) (hk : k ≠ 0) :
    Calls Tryd.prog 10 #[bstr s n, .int .i64 a, .int .i64 c] w fun e w' => e = .returned (.tuple #[bstr ⟨#[]⟩ 0, .int .i64 k]) ∧ Below w.heap.size w w' := by
  refine Calls.mono (cut_any s n a c w hn ha hc hs) ?_
  rintro e w' ⟨s', n', rfl, _, h2, hb⟩
  obtain ⟨rfl, rfl⟩ := h2 (by rw [h]; exact hk)
  rw [h]; exact ⟨rfl, hb⟩
theorem cut_yes (s : ByteArray) (n a c : Int) (w : World) (hn : I64 n) (ha : I64 a) (hc : I64 c) (hs : s.size ≤ 9223372036854775807) (h : cutW s n a c = 0) :
    Calls Tryd.prog 10 #[bstr s n, .int .i64 a, .int .i64 c] w fun e w' => (∃ s' n', e = .returned (.tuple #[bstr s' n', .int .i64 0]) ∧ Bs s' n' (((bitsL s n.toNat).drop a.toNat).take c.toNat)) ∧ Below w.heap.size w w' := by
  refine Calls.mono (cut_any s n a c w hn ha hc hs) ?_
  rintro e w' ⟨s', n', rfl, h1, _, hb⟩
  rw [h]; exact ⟨⟨s', n', rfl, h1 h⟩, hb⟩
theorem tread_no (s : ByteArray) (n a k : Int) (q0 q1 : Addr) (w : World) (hS : Sent2 w q0 q1) (hn : I64 n) (ha : I64 a) (hk : I64 k) (hs : s.size ≤ 9223372036854775807) {v : Int} (h : (treadX s n a k).1 = v) (hv : v ≠ 0) :
    Calls Tryd.prog 7 #[bstr s n, .int .i64 a, .int .i64 k] w fun e w' => e = .returned (.tuple #[.slice none 0 0, .int .i64 0, .int .i64 v]) ∧ Below w.heap.size w w' := by
  refine Calls.mono (tread_any s n a k q0 q1 w hS hn ha hk hs) ?_
  rintro e w' ⟨hb, ⟨h0, _⟩ | ⟨_, rfl⟩⟩
  · exact absurd (h.symm.trans h0) hv
  · rw [h]; exact ⟨rfl, hb⟩
theorem Bs.int {s : ByteArray} {n : Int} {l : List Bool} (h : Bs s n l) : I64 n ∧ s.size ≤ 9223372036854775807 ∧ rightB s n = true ∧ n = (l.length : Nat) ∧ bitsL s l.length = l ∧ l.length ≤ 1048576 := by
  have h1 := h.len
  refine ⟨?_, by omega, h.1, h.2.1, h.2.2, h1.1⟩
  rw [h.2.1]; exact ⟨by omega, by omega⟩

set_option maxRecDepth 100000 in
set_option maxHeartbeats 4000000 in
theorem tableCut_any (A : Option Addr) (ls : List Int) (c : Nat) (n : Int) (q0 q1 : Addr) (w : World) (h : Rd w w.heap.size A (ls.map (.int .i64))) (hlen : ls.length ≤ 9223372036854775807) (hn : I64 n) (hS : Sent2 w q0 q1) :
    Calls Tryd.prog 4 #[.slice A ls.length c, .int .i64 n] w fun e w' => e = .returned (.bool true) ∧ Below w.heap.size w w' := by
  have H := hide h
  have HS := hide hS
  clear h hS
  by_cases h0 : tabW ls = 0
  · have ha := fun (w1 : World) (hb : Below w.heap.size w w1) => twrite_yes A ls c w1 ((H.out.below hb).more hb.size) hlen h0
    obtain ⟨hok, hne⟩ := tabW_zero h0
    obtain ⟨h512, _⟩ := okL_nat hok
    have hTl := tabBits_length_le hok
    have HW := hide h0
    obtain ⟨T, hT⟩ : ∃ T, T = (tabBits ls).length := ⟨_, rfl⟩
    rw [← hT] at ha hTl
    have HA := hide ha
    have HT := hide hT
    clear ha hT h0 hok
    by_cases g1 : n < 0
    · have cut : ∀ (s : ByteArray) (W : World), Bs s T (tabBits ls) → Calls Tryd.prog 10 #[bstr s T, .int .i64 0, .int .i64 n] W fun e w' => e = .returned (.tuple #[bstr ⟨#[]⟩ 0, .int .i64 1]) ∧ Below W.heap.size W w' := fun s W hb => cut_no s T 0 n W hb.int.1 ⟨by omega, by omega⟩ hn hb.int.2.1 (by unfold cutW; rw [if_pos hb.1, if_pos (by omega)]) (by decide)
      have HCut := hide cut
      clear cut
      go_enter Tryd.func4, Tryd.ntmps4
      go_wp2_with (first | (go_at_call 5; refine (Calls.mono (lives22 q0 q1 w HS.out) ?_); rintro e w1 ⟨rfl, hb1⟩) | (go_at_call 6; refine (Calls.mono (HA.out _ hb1) ?_); rintro e w2 ⟨⟨s2, rfl, hbs⟩, hb2⟩; have hbe2 : Below w.heap.size w w2 := hb1.trans (hb2.mono hb1.size); have hz2 := hbe2.size; have HBs := hide hbs; have hbe2' := hbe2.alloc hz2 (.cells #[.string s2, .int .i64 T] 23); have kb2 := Bk.new w2 23 #[.string s2, .int .i64 T]; clear hbs hb2) | (go_at_call 10; refine (Calls.mono (HCut.out s2 _ HBs.out) ?_); rintro e w3 ⟨rfl, hb3⟩; have hbe3 : Below w.heap.size w w3 := hbe2'.trans (hb3.mono (by simp; omega)); have hz3 := hbe3.size; have kb3 := kb2.keep hb3; obtain ⟨p30, p31⟩ := two_cells kb3; have hq3 := kb3.lt))
      go_ret
      exact ⟨rfl, hbe3.alloc hz3 _⟩
    · by_cases g2 : (T : Int) < n
      · have cut : ∀ (s : ByteArray) (W : World), Bs s T (tabBits ls) → Calls Tryd.prog 10 #[bstr s T, .int .i64 0, .int .i64 n] W fun e w' => e = .returned (.tuple #[bstr ⟨#[]⟩ 0, .int .i64 5]) ∧ Below W.heap.size W w' := fun s W hb => cut_no s T 0 n W hb.int.1 ⟨by omega, by omega⟩ hn hb.int.2.1 (by unfold cutW; rw [if_pos hb.1, if_neg (by omega), if_pos (by omega)]) (by decide)
        have HCut := hide cut
        clear cut
        go_enter Tryd.func4, Tryd.ntmps4
        go_wp2_with (first | (go_at_call 5; refine (Calls.mono (lives22 q0 q1 w HS.out) ?_); rintro e w1 ⟨rfl, hb1⟩) | (go_at_call 6; refine (Calls.mono (HA.out _ hb1) ?_); rintro e w2 ⟨⟨s2, rfl, hbs⟩, hb2⟩; have hbe2 : Below w.heap.size w w2 := hb1.trans (hb2.mono hb1.size); have hz2 := hbe2.size; have HBs := hide hbs; have hbe2' := hbe2.alloc hz2 (.cells #[.string s2, .int .i64 T] 23); have kb2 := Bk.new w2 23 #[.string s2, .int .i64 T]; clear hbs hb2) | (go_at_call 10; refine (Calls.mono (HCut.out s2 _ HBs.out) ?_); rintro e w3 ⟨rfl, hb3⟩; have hbe3 : Below w.heap.size w w3 := hbe2'.trans (hb3.mono (by simp; omega)); have hz3 := hbe3.size; have kb3 := kb2.keep hb3; obtain ⟨p30, p31⟩ := two_cells kb3; have hq3 := kb3.lt))
        go_ret
        exact ⟨rfl, hbe3.alloc hz3 _⟩
      · have cut : ∀ (s : ByteArray) (W : World), Bs s T (tabBits ls) → Calls Tryd.prog 10 #[bstr s T, .int .i64 0, .int .i64 n] W fun e w' => (∃ s' n', e = .returned (.tuple #[bstr s' n', .int .i64 0]) ∧ Bs s' n' (((bitsL s (T : Int).toNat).drop (0 : Int).toNat).take n.toNat)) ∧ Below W.heap.size W w' := fun s W hb => cut_yes s T 0 n W hb.int.1 ⟨by omega, by omega⟩ hn hb.int.2.1 (by unfold cutW; rw [if_pos hb.1, if_neg (by omega), if_neg (by omega)])
        have HCut := hide cut
        clear cut
        obtain ⟨n, rfl⟩ := Int.eq_ofNat_of_zero_le (show 0 ≤ n by omega)
        by_cases g3 : T ≤ n
        · have gd : decide ((T : Int) ≤ (n : Int)) = true := decide_eq_true (by omega)
          go_enter Tryd.func4, Tryd.ntmps4
          go_wp2_with (first | (go_at_call 5; refine (Calls.mono (lives22 q0 q1 w HS.out) ?_); rintro e w1 ⟨rfl, hb1⟩) | (go_at_call 6; refine (Calls.mono (HA.out _ hb1) ?_); rintro e w2 ⟨⟨s2, rfl, hbs⟩, hb2⟩; have hbe2 : Below w.heap.size w w2 := hb1.trans (hb2.mono hb1.size); have hz2 := hbe2.size; have HBs := hide hbs; have hbe2' := hbe2.alloc hz2 (.cells #[.string s2, .int .i64 T] 23); have kb2 := Bk.new w2 23 #[.string s2, .int .i64 T]; clear hbs hb2) | (go_at_call 10; refine (Calls.mono (HCut.out s2 _ HBs.out) ?_); rintro e w3 ⟨⟨s3, n3, rfl, hbs3⟩, hb3⟩; have hbe3 : Below w.heap.size w w3 := hbe2'.trans (hb3.mono (by simp; omega)); have hz3 := hbe3.size; have kb3 := kb2.keep hb3; obtain ⟨p30, p31⟩ := two_cells kb3; have hq3 := kb3.lt; have HB3 := hide hbs3; clear hbs3))
          go_ret
          exact ⟨rfl, hbe3.alloc hz3 _⟩
        · have gd : decide ((T : Int) ≤ (n : Int)) = false := decide_eq_false (by omega)
          have rd : ∀ (s2 s3 : ByteArray) (n3 : Int) (W : World), Bs s2 T (tabBits ls) → Bs s3 n3 (((bitsL s2 (T : Int).toNat).drop (0 : Int).toNat).take (n : Int).toNat) → Sent2 W q0 q1 → Calls Tryd.prog 7 #[bstr s3 n3, .int .i64 0, .int .i64 ls.length] W fun e w' => e = .returned (.tuple #[.slice none 0 0, .int .i64 0, .int .i64 5]) ∧ Below W.heap.size W w' := by
            intro s2 s3 n3 W hb2 hb3 hS
            have i2 := hb2.int
            have i3 := hb3.int
            rw [Int.toNat_natCast, Int.toNat_natCast, show (0 : Int).toNat = 0 from rfl, List.drop_zero] at hb3 i3
            have hlen3 : ((bitsL s2 T).take n).length = n := by rw [List.length_take, bitsL_length]; omega
            have hT2 := hb2.2.2
            rw [← HT.out] at hT2
            rw [hlen3, hT2] at i3
            obtain ⟨j1, j2, j3, rfl, j5, j6⟩ := i3
            refine tread_no s3 n 0 ls.length q0 q1 W hS j1 ⟨by omega, by omega⟩ ⟨by omega, by omega⟩ j2 ?_ (by decide)
            unfold treadX
            rw [if_pos j3, if_neg (by omega)]
            exact read_cut HW.out (n := n) j5 (by rw [← HT.out]; omega)
          have HRd := hide rd
          clear rd
          go_enter Tryd.func4, Tryd.ntmps4
          go_wp2_with (first | (go_at_call 5; refine (Calls.mono (lives22 q0 q1 w HS.out) ?_); rintro e w1 ⟨rfl, hb1⟩) | (go_at_call 6; refine (Calls.mono (HA.out _ hb1) ?_); rintro e w2 ⟨⟨s2, rfl, hbs⟩, hb2⟩; have hbe2 : Below w.heap.size w w2 := hb1.trans (hb2.mono hb1.size); have hz2 := hbe2.size; have HBs := hide hbs; have hbe2' := hbe2.alloc hz2 (.cells #[.string s2, .int .i64 T] 23); have kb2 := Bk.new w2 23 #[.string s2, .int .i64 T]; clear hbs hb2) | (go_at_call 10; refine (Calls.mono (HCut.out s2 _ HBs.out) ?_); rintro e w3 ⟨⟨s3, n3, rfl, hbs3⟩, hb3⟩; have hbe3 : Below w.heap.size w w3 := hbe2'.trans (hb3.mono (by simp; omega)); have hz3 := hbe3.size; have kb3 := kb2.keep hb3; obtain ⟨p30, p31⟩ := two_cells kb3; have hq3 := kb3.lt; have HB3 := hide hbs3; clear hbs3) | (go_at_call 7; refine (Calls.mono (HRd.out s2 s3 n3 _ HBs.out HB3.out (HS.out.below (hbe3.alloc hz3 _) (Nat.le_refl _))) ?_); rintro e w4 ⟨rfl, hb4⟩; have hbe4 : Below w.heap.size w w4 := (hbe3.alloc hz3 _).trans (hb4.mono (by simp; omega))))
          go_ret
          exact ⟨rfl, hbe4⟩
  · have ha := fun (w1 : World) (hb : Below w.heap.size w w1) => twrite_no A ls c w1 ((H.out.below hb).more hb.size) hlen h0
    have HA := hide ha
    clear ha h0
    go_enter Tryd.func4, Tryd.ntmps4
    go_wp2_with (first | (go_at_call 5; refine (Calls.mono (lives22 q0 q1 w HS.out) ?_); rintro e w1 ⟨rfl, hb1⟩) | (go_at_call 6; refine (Calls.mono (HA.out _ hb1) ?_); rintro e w2 ⟨rfl, hb2⟩; have hbe2 : Below w.heap.size w w2 := hb1.trans (hb2.mono hb1.size); have hz2 := hbe2.size))
    go_ret
    exact ⟨rfl, hbe2.alloc hz2 _⟩
#print axioms tableCut_any
end Go.Proofs.YtggffiikfelbjaaDoor
