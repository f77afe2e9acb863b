/- Walk: the law TableBack. -/
import Derived.Test.YtggffiikfelbjaaDoorTabM
namespace Go.Proofs.YtggffiikfelbjaaDoor
open Go.RowKit

/-- The law's first half: what was written. -/
inductive BackW (ls : List Int) (s : ByteArray) (n : Int) : Prop
  | yes (M : Nat) (hn : n = M) (h : (tabR ls s M).1 = 0) (hw : tabW ls = 0)
  | no (h : (tabR ls s n).1 ≠ 0)
theorem backW (ls : List Int) (s : ByteArray) (n : Int) : BackW ls s n := by
  by_cases h : (tabR ls s n).1 = 0
  · have hr : rightB s n = true := by
      unfold tabR at h
      split at h
      · assumption
      · cases h
    obtain ⟨M, rfl⟩ := Int.eq_ofNat_of_zero_le (rightB_n hr).1
    refine .yes M rfl h ?_
    refine Decidable.byContradiction fun hw => ?_
    unfold tabR at h
    rw [if_pos hr, if_neg hw] at h
    exact hw h
  · exact .no h

set_option maxRecDepth 100000 in
set_option maxHeartbeats 8000000 in
theorem tableBack_any (A : Option Addr) (ls : List Int) (c : Nat) (s : ByteArray) (n a k : Int) (q0 q1 : Addr) (w : World) (h : Rd w w.heap.size A (ls.map (.int .i64))) (hlen : ls.length ≤ 9223372036854775807) (hn : I64 n) (hs : s.size ≤ 9223372036854775807) (ha : I64 a) (hk : I64 k) (hS : Sent2 w q0 q1) :
    Calls Tryd.prog 3 #[bstr s n, .slice A ls.length c, .int .i64 a, .int .i64 k] w fun e w' => e = .returned (.bool true) ∧ Below w.heap.size w w' := by
  have H := hide h
  have HS := hide hS
  clear h hS
  have be0 : Below w.heap.size w (w.alloc (.cells #[.string s, .int .i64 n] 23)) := (Below.refl _ _).alloc (Nat.le_refl _) _
  have kb0 := Bk.new w 23 #[.string s, .int .i64 n]
  have hsz := fun (W : World) (hb : Below w.heap.size w W) => tsize_any A ls c W ((H.out.below hb).more hb.size) hlen
  obtain ⟨X, hX⟩ : ∃ X, X = treadX s n a k := ⟨_, rfl⟩
  have HX := hide hX
  clear hX
  by_cases hx0 : X.1 = 0
  · obtain ⟨x0, out, r⟩ := X
    obtain rfl : x0 = 0 := hx0
    obtain ⟨t1, t2, t3, t4, t5, t6⟩ := treadX_zero HX.out.symm
    have hR := rightB_n t1
    obtain ⟨M, rfl⟩ := Int.eq_ofNat_of_zero_le hR.1
    obtain ⟨a, rfl⟩ := Int.eq_ofNat_of_zero_le t2
    obtain ⟨K, rfl⟩ := Int.eq_ofNat_of_zero_le (show 0 ≤ k by omega)
    rw [Int.toNat_natCast, Int.toNat_natCast, Int.toNat_natCast] at t6
    obtain ⟨b1, b2, b3⟩ := read_bits (by omega) t6
    have hl := congrArg List.length b3
    rw [List.length_drop, bitsL_length, List.length_append] at hl
    obtain ⟨E, hE⟩ : ∃ E, E = M - r.length := ⟨_, rfl⟩
    obtain ⟨T2, hT2⟩ : ∃ T2, T2 = (tabBits (out.map Int.ofNat)).length := ⟨_, rfl⟩
    have hrd := fun (W : World) (hb : Below w.heap.size w W) => back_any s M a K q0 q1 W (HS.out.below hb (Nat.le_refl _)) hn ha hk hs HX.out.symm hE
    have hct := fun (W : World) => back_cut s M a E K W hn ha hs HX.out.symm hE
    have hw2 : ∀ (g c : Nat) (W : World), Bk W g 3 ((out.map fun (l : Nat) => Value.int .i64 l)).toArray → Calls Tryd.prog 6 #[bstr ⟨#[]⟩ 0, .slice (some ⟨g, 0, none⟩) K c] W fun e w' => (∃ s, e = .returned (.tuple #[bstr s T2, .int .i64 0]) ∧ Bs s T2 (tabBits (out.map Int.ofNat))) ∧ Below W.heap.size W w' := fun g c W h => by
      have := twrite_yes (some ⟨g, 0, none⟩) (out.map Int.ofNat) c W (nats_rd h) (by rw [List.length_map]; omega) b1
      rwa [List.length_map, b2, ← hT2] at this
    have hck : ∀ (g c : Nat) (W : World), Bk W g 3 ((out.map fun (l : Nat) => Value.int .i64 l)).toArray → Calls Tryd.prog 11 #[.slice (some ⟨g, 0, none⟩) K c] W fun e w' => e = .returned (.int .i64 0) ∧ w' = W := fun g c W h => by
      have := tcanon g K c out W h b2 (by omega)
      rwa [show okW (out.map Int.ofNat) = 0 by simp [okW, (tabW_zero b1).1]] at this
    have eb : a ≤ E ∧ E ≤ M := by omega
    have HRd := hide hrd
    have HCt := hide hct
    have HW2 := hide hw2
    have HCk := hide hck
    have hMb : M ≤ 1048576 := by omega
    have hKb : K ≤ 512 := by omega
    clear hrd hct hw2 hck hT2 hl b1 b2 b3 t1 t2 t3 t4 t5 t6 hR HX hE
    rcases backW ls s M with ⟨M', hM', h0, hw0⟩ | h0
    · obtain rfl : M = M' := by omega
      have hTl := tabBits_length_le (tabW_zero hw0).1
      obtain ⟨T, hT⟩ : ∃ T, T = (tabBits ls).length := ⟨_, rfl⟩
      rw [← hT] at hTl
      obtain ⟨N2, hN2⟩ : ∃ N2, N2 = M + T := ⟨_, rfl⟩
      have hM0 : M ≤ 1048576 := by
        unfold tabR at h0
        split at h0
        · rename_i g; have := rightB_n g; omega
        · cases h0
      have hN2b : N2 ≤ 1100000 ∧ M ≤ N2 := by omega
      have hbn : ((N2 : Int) - (M : Int) != (T : Int)) = false := by simp; omega
      have hwr := fun (W : World) (hb : Below w.heap.size w W) => back_write A ls c M s W ((H.out.below hb).more hb.size) hlen hs hn h0 (N2 := N2) (by rw [hN2, hT])
      have hrb := fun (s2 : ByteArray) (W : World) (hS : Sent2 W q0 q1) => back_read ls M N2 s s2 q0 q1 W hS hw0
      have hzz := fun (W : World) (hb : Below w.heap.size w W) => (show Calls Tryd.prog 8 #[.slice A ls.length c] W fun e w' => e = .returned (.tuple #[.int .i64 T, .int .i64 0]) ∧ ∃ j, w' = W.drewN j from by have := hsz W hb; unfold TSizeP at this; rwa [if_pos hw0, hw0, ← hT] at this)
      have hsn := fun (g c' : Nat) (W : World) (hb : Below w.heap.size w W) (rd : Rd W W.heap.size (some ⟨g, 0, none⟩) (ls.map (.int .i64))) => (show Calls Tryd.prog 9 #[.slice (some ⟨g, 0, none⟩) ls.length c', .slice A ls.length c] W fun e w' => e = .returned (.bool true) ∧ ∃ j, w' = W.drewN j from by have := sameNumbers_any (some ⟨g, 0, none⟩) A ls ls c' c W rd ((H.out.below hb).more hb.size) hlen hlen; rwa [decide_eq_true rfl] at this)
      have HA := hide hwr
      have HRb := hide hrb
      have HSz := hide hzz
      have HSn := hide hsn
      clear hwr hrb hzz hsn hsz hT hN2 h0 hw0
      go_enter Tryd.func3, Tryd.ntmps3
      go_wp2_with (first | (go_at_call 5; refine (Calls.mono (lives22 q0 q1 _ (HS.out.below be0 (Nat.le_refl _))) ?_); rintro e w1 ⟨rfl, hb1⟩; have be1 := Below.alloc_trans (Below.refl w.heap.size w) (Nat.le_refl _) hb1; have kb1 := kb0.keep hb1; have hz1 := be1.size; obtain ⟨p10, p11⟩ := two_cells kb1; have hq1 := kb1.lt; have HB1 := hide (And.intro be1 kb1); clear hb1 be1 kb1) | (go_at_call 6; have HB1x := HB1; clear HB1; refine (Calls.mono (HA.out _ HB1x.out.1) ?_); rintro e w2 ⟨⟨s2, rfl, hbs⟩, hb2⟩; have be2 := HB1x.out.1.trans (hb2.mono hz1); have kb2 := HB1x.out.2.keep hb2; have hz2 := be2.size; have HBs := hide hbs; have be2' := be2.alloc hz2 (.cells #[.string s2, .int .i64 N2] 23); have kx2 := Bk.new w2 23 #[.string s2, .int .i64 N2]; have kb2' := kb2.alloc (.cells #[.string s2, .int .i64 N2] 23); obtain ⟨p20, p21⟩ := two_cells kb2; have hq2 := kb2.lt; have HB2 := hide (And.intro be2' (And.intro kb2' kx2)); clear hbs hb2 be2 kb2 be2' kx2 kb2' p10 p11) | (go_at_call 7; have HB2x := HB2; clear HB2; refine (Calls.mono (HRb.out s2 _ (HS.out.below HB2x.out.1 (Nat.le_refl _)) HBs.out) ?_); rintro e w3 ⟨⟨c3, g3, rfl, rd3⟩, hb3⟩; have be3 := HB2x.out.1.trans (hb3.mono HB2x.out.1.size); have kb3 := HB2x.out.2.1.keep hb3; have kx3 := HB2x.out.2.2.keep hb3; have hz3 := be3.size; obtain ⟨p30, p31⟩ := two_cells kb3; obtain ⟨y30, y31⟩ := two_cells kx3; have HB3 := hide (And.intro be3 (And.intro kb3 (And.intro kx3 rd3))); clear hb3 be3 kb3 kx3 rd3 p20 p21) | (go_at_call 8; refine (Calls.mono (HSz.out _ HB3.out.1) ?_); rintro e w4 ⟨rfl, j4, hw4⟩; have HB4 : Hid (Below w.heap.size w w4 ∧ Bk w4 w.heap.size 23 #[.string s, .int .i64 M] ∧ Bk w4 w2.heap.size 23 #[.string s2, .int .i64 N2] ∧ Rd w4 w4.heap.size (some ⟨g3, 0, none⟩) (ls.map (.int .i64))) := hide (by rw [hw4]; exact ⟨below_drewN HB3.out.1 j4, HB3.out.2.1.drewN j4, HB3.out.2.2.1.drewN j4, HB3.out.2.2.2.drewN j4⟩); obtain ⟨p40, p41⟩ := two_cells HB4.out.2.1; obtain ⟨y40, y41⟩ := two_cells HB4.out.2.2.1; clear hw4 p30 p31 y30 y31) | (go_at_call 9; refine (Calls.mono (HSn.out g3 c3 w4 HB4.out.1 HB4.out.2.2.2) ?_); rintro e w5 ⟨rfl, j5, hw5⟩; have HB5 : Hid (Below w.heap.size w w5 ∧ Bk w5 w.heap.size 23 #[.string s, .int .i64 M]) := hide (by rw [hw5]; exact ⟨below_drewN HB4.out.1 j5, HB4.out.2.1.drewN j5⟩); have kx5 : Bk w5 w2.heap.size 23 #[.string s2, .int .i64 N2] := (by rw [hw5]; exact HB4.out.2.2.1.drewN j5); obtain ⟨p50, p51⟩ := two_cells HB5.out.2; obtain ⟨y50, y51⟩ := two_cells kx5; clear hw5 p40 p41 y40 y41 kx5) | (go_at_call 7; refine (Calls.mono (HRd.out _ HB5.out.1) ?_); rintro e w6 ⟨⟨c6, g6, rfl, kl6⟩, hb6⟩; have be6 := HB5.out.1.trans (hb6.mono HB5.out.1.size); have kb6 := HB5.out.2.keep hb6; have hz6 := be6.size; obtain ⟨p60, p61⟩ := two_cells kb6; have HB6 := hide (And.intro be6 (And.intro kb6 kl6)); clear hb6 be6 kb6 kl6) | (go_at_call 6; refine (Calls.mono (HW2.out g6 c6 _ HB6.out.2.2) ?_); rintro e w7 ⟨⟨s7, rfl, hs7⟩, hb7⟩; have be7 := HB6.out.1.trans (hb7.mono hz6); have kb7 := HB6.out.2.1.keep hb7; have kl7 := HB6.out.2.2.keep hb7; have hz7 := be7.size; have be7' := be7.alloc hz7 (.cells #[.string s7, .int .i64 T2] 23); have kx7 := Bk.new w7 23 #[.string s7, .int .i64 T2]; have kb7' := kb7.alloc (.cells #[.string s7, .int .i64 T2] 23); have kl7' := kl7.alloc (.cells #[.string s7, .int .i64 T2] 23); obtain ⟨p70, p71⟩ := two_cells kb7; have hq7 := kb7.lt; have HS7 := hide hs7; have HB7 := hide (And.intro be7' (And.intro kb7' (And.intro kl7' kx7))); clear hs7 hb7 be7 kb7 kl7 be7' kx7 kb7' kl7' p60 p61) | (go_at_call 10; refine (Calls.mono (HCt.out _) ?_); rintro e w8 ⟨⟨s8, n8, rfl, hs8⟩, hb8⟩; have hone := hs8.one HS7.out; obtain rfl := hone.1; obtain rfl := hone.2; have be8 := HB7.out.1.trans (hb8.mono HB7.out.1.size); have kl8 := HB7.out.2.2.1.keep hb8; have kx8 := HB7.out.2.2.2.keep hb8; have hz8 := be8.size; obtain ⟨y80, y81⟩ := two_cells kx8; have hq8 := kx8.lt; have be8' := be8.alloc hz8 (.cells #[.string s8, .int .i64 T2] 23); have kl8' := kl8.alloc (.cells #[.string s8, .int .i64 T2] 23); have HB8 := hide (And.intro be8' kl8'); clear hone hs8 hb8 be8 kl8 kx8 be8' kl8' p70 p71) | (go_at_call 11; refine (Calls.mono (HCk.out g6 c6 _ HB8.out.2) ?_); rintro e w9 ⟨rfl, hww⟩; replace hww := hww.symm; subst hww))
      go_ret
      exact ⟨rfl, HB8.out.1⟩
    · obtain ⟨u, hu⟩ : ∃ u, u = (tabR ls s M).1 := ⟨_, rfl⟩
      have hub : (u == 0) = false := by rw [hu]; simpa using h0
      have hwr := fun (W : World) (hb : Below w.heap.size w W) => back_nowrite A ls c M s W ((H.out.below hb).more hb.size) hlen hs hn hu.symm
      have HA := hide hwr
      clear hwr hsz hu h0
      go_enter Tryd.func3, Tryd.ntmps3
      go_wp2_with (first | (go_at_call 5; refine (Calls.mono (lives22 q0 q1 _ (HS.out.below be0 (Nat.le_refl _))) ?_); rintro e w1 ⟨rfl, hb1⟩; have be1 := Below.alloc_trans (Below.refl w.heap.size w) (Nat.le_refl _) hb1; have kb1 := kb0.keep hb1; have hz1 := be1.size; obtain ⟨p10, p11⟩ := two_cells kb1; have hq1 := kb1.lt; have HB1 := hide (And.intro be1 kb1); clear hb1 be1 kb1) | (go_at_call 6; have HB1x := HB1; clear HB1; refine (Calls.mono (HA.out _ HB1x.out.1) ?_); rintro e w2 ⟨⟨s2, n2, rfl⟩, hb2⟩; have be2 := HB1x.out.1.trans (hb2.mono hz1); have kb2 := HB1x.out.2.keep hb2; have hz2 := be2.size; have be2' := be2.alloc hz2 (.cells #[.string s2, .int .i64 n2] 23); have kb2' := kb2.alloc (.cells #[.string s2, .int .i64 n2] 23); obtain ⟨p20, p21⟩ := two_cells kb2; have hq2 := kb2.lt; have HB5 := hide (And.intro be2' kb2'); clear hb2 be2 kb2 be2' kb2' p10 p11) | (go_at_call 7; refine (Calls.mono (HRd.out _ HB5.out.1) ?_); rintro e w6 ⟨⟨c6, g6, rfl, kl6⟩, hb6⟩; have be6 := HB5.out.1.trans (hb6.mono HB5.out.1.size); have kb6 := HB5.out.2.keep hb6; have hz6 := be6.size; obtain ⟨p60, p61⟩ := two_cells kb6; have HB6 := hide (And.intro be6 (And.intro kb6 kl6)); clear hb6 be6 kb6 kl6) | (go_at_call 6; refine (Calls.mono (HW2.out g6 c6 _ HB6.out.2.2) ?_); rintro e w7 ⟨⟨s7, rfl, hs7⟩, hb7⟩; have be7 := HB6.out.1.trans (hb7.mono hz6); have kb7 := HB6.out.2.1.keep hb7; have kl7 := HB6.out.2.2.keep hb7; have hz7 := be7.size; have be7' := be7.alloc hz7 (.cells #[.string s7, .int .i64 T2] 23); have kx7 := Bk.new w7 23 #[.string s7, .int .i64 T2]; have kb7' := kb7.alloc (.cells #[.string s7, .int .i64 T2] 23); have kl7' := kl7.alloc (.cells #[.string s7, .int .i64 T2] 23); obtain ⟨p70, p71⟩ := two_cells kb7; have hq7 := kb7.lt; have HS7 := hide hs7; have HB7 := hide (And.intro be7' (And.intro kb7' (And.intro kl7' kx7))); clear hs7 hb7 be7 kb7 kl7 be7' kx7 kb7' kl7' p60 p61) | (go_at_call 10; refine (Calls.mono (HCt.out _) ?_); rintro e w8 ⟨⟨s8, n8, rfl, hs8⟩, hb8⟩; have hone := hs8.one HS7.out; obtain rfl := hone.1; obtain rfl := hone.2; have be8 := HB7.out.1.trans (hb8.mono HB7.out.1.size); have kl8 := HB7.out.2.2.1.keep hb8; have kx8 := HB7.out.2.2.2.keep hb8; have hz8 := be8.size; obtain ⟨y80, y81⟩ := two_cells kx8; have hq8 := kx8.lt; have be8' := be8.alloc hz8 (.cells #[.string s8, .int .i64 T2] 23); have kl8' := kl8.alloc (.cells #[.string s8, .int .i64 T2] 23); have HB8 := hide (And.intro be8' kl8'); clear hone hs8 hb8 be8 kl8 kx8 be8' kl8' p70 p71) | (go_at_call 11; refine (Calls.mono (HCk.out g6 c6 _ HB8.out.2) ?_); rintro e w9 ⟨rfl, hww⟩; replace hww := hww.symm; subst hww))
      go_ret
      exact ⟨rfl, HB8.out.1⟩
  · obtain ⟨v, hv⟩ : ∃ v, v = X.1 := ⟨_, rfl⟩
    have hrd := fun (W : World) (hb : Below w.heap.size w W) => tread_no s n a k q0 q1 W (HS.out.below hb (Nat.le_refl _)) hn ha hk hs (v := v) (by rw [hv, HX.out]) (by rw [hv]; exact hx0)
    have hvb : (v != 0) = true := by rw [hv]; simpa using hx0
    have HRd := hide hrd
    clear hrd hv hx0 HX
    rcases backW ls s n with ⟨M, rfl, h0, hw0⟩ | h0
    ·
      have hTl := tabBits_length_le (tabW_zero hw0).1
      obtain ⟨T, hT⟩ : ∃ T, T = (tabBits ls).length := ⟨_, rfl⟩
      rw [← hT] at hTl
      obtain ⟨N2, hN2⟩ : ∃ N2, N2 = M + T := ⟨_, rfl⟩
      have hM0 : M ≤ 1048576 := by
        unfold tabR at h0
        split at h0
        · rename_i g; have := rightB_n g; omega
        · cases h0
      have hN2b : N2 ≤ 1100000 ∧ M ≤ N2 := by omega
      have hbn : ((N2 : Int) - (M : Int) != (T : Int)) = false := by simp; omega
      have hwr := fun (W : World) (hb : Below w.heap.size w W) => back_write A ls c M s W ((H.out.below hb).more hb.size) hlen hs hn h0 (N2 := N2) (by rw [hN2, hT])
      have hrb := fun (s2 : ByteArray) (W : World) (hS : Sent2 W q0 q1) => back_read ls M N2 s s2 q0 q1 W hS hw0
      have hzz := fun (W : World) (hb : Below w.heap.size w W) => (show Calls Tryd.prog 8 #[.slice A ls.length c] W fun e w' => e = .returned (.tuple #[.int .i64 T, .int .i64 0]) ∧ ∃ j, w' = W.drewN j from by have := hsz W hb; unfold TSizeP at this; rwa [if_pos hw0, hw0, ← hT] at this)
      have hsn := fun (g c' : Nat) (W : World) (hb : Below w.heap.size w W) (rd : Rd W W.heap.size (some ⟨g, 0, none⟩) (ls.map (.int .i64))) => (show Calls Tryd.prog 9 #[.slice (some ⟨g, 0, none⟩) ls.length c', .slice A ls.length c] W fun e w' => e = .returned (.bool true) ∧ ∃ j, w' = W.drewN j from by have := sameNumbers_any (some ⟨g, 0, none⟩) A ls ls c' c W rd ((H.out.below hb).more hb.size) hlen hlen; rwa [decide_eq_true rfl] at this)
      have HA := hide hwr
      have HRb := hide hrb
      have HSz := hide hzz
      have HSn := hide hsn
      clear hwr hrb hzz hsn hsz hT hN2 h0 hw0
      go_enter Tryd.func3, Tryd.ntmps3
      go_wp2_with (first | (go_at_call 5; refine (Calls.mono (lives22 q0 q1 _ (HS.out.below be0 (Nat.le_refl _))) ?_); rintro e w1 ⟨rfl, hb1⟩; have be1 := Below.alloc_trans (Below.refl w.heap.size w) (Nat.le_refl _) hb1; have kb1 := kb0.keep hb1; have hz1 := be1.size; obtain ⟨p10, p11⟩ := two_cells kb1; have hq1 := kb1.lt; have HB1 := hide (And.intro be1 kb1); clear hb1 be1 kb1) | (go_at_call 6; have HB1x := HB1; clear HB1; refine (Calls.mono (HA.out _ HB1x.out.1) ?_); rintro e w2 ⟨⟨s2, rfl, hbs⟩, hb2⟩; have be2 := HB1x.out.1.trans (hb2.mono hz1); have kb2 := HB1x.out.2.keep hb2; have hz2 := be2.size; have HBs := hide hbs; have be2' := be2.alloc hz2 (.cells #[.string s2, .int .i64 N2] 23); have kx2 := Bk.new w2 23 #[.string s2, .int .i64 N2]; have kb2' := kb2.alloc (.cells #[.string s2, .int .i64 N2] 23); obtain ⟨p20, p21⟩ := two_cells kb2; have hq2 := kb2.lt; have HB2 := hide (And.intro be2' (And.intro kb2' kx2)); clear hbs hb2 be2 kb2 be2' kx2 kb2' p10 p11) | (go_at_call 7; have HB2x := HB2; clear HB2; refine (Calls.mono (HRb.out s2 _ (HS.out.below HB2x.out.1 (Nat.le_refl _)) HBs.out) ?_); rintro e w3 ⟨⟨c3, g3, rfl, rd3⟩, hb3⟩; have be3 := HB2x.out.1.trans (hb3.mono HB2x.out.1.size); have kb3 := HB2x.out.2.1.keep hb3; have kx3 := HB2x.out.2.2.keep hb3; have hz3 := be3.size; obtain ⟨p30, p31⟩ := two_cells kb3; obtain ⟨y30, y31⟩ := two_cells kx3; have HB3 := hide (And.intro be3 (And.intro kb3 (And.intro kx3 rd3))); clear hb3 be3 kb3 kx3 rd3 p20 p21) | (go_at_call 8; refine (Calls.mono (HSz.out _ HB3.out.1) ?_); rintro e w4 ⟨rfl, j4, hw4⟩; have HB4 : Hid (Below w.heap.size w w4 ∧ Bk w4 w.heap.size 23 #[.string s, .int .i64 M] ∧ Bk w4 w2.heap.size 23 #[.string s2, .int .i64 N2] ∧ Rd w4 w4.heap.size (some ⟨g3, 0, none⟩) (ls.map (.int .i64))) := hide (by rw [hw4]; exact ⟨below_drewN HB3.out.1 j4, HB3.out.2.1.drewN j4, HB3.out.2.2.1.drewN j4, HB3.out.2.2.2.drewN j4⟩); obtain ⟨p40, p41⟩ := two_cells HB4.out.2.1; obtain ⟨y40, y41⟩ := two_cells HB4.out.2.2.1; clear hw4 p30 p31 y30 y31) | (go_at_call 9; refine (Calls.mono (HSn.out g3 c3 w4 HB4.out.1 HB4.out.2.2.2) ?_); rintro e w5 ⟨rfl, j5, hw5⟩; have HB5 : Hid (Below w.heap.size w w5 ∧ Bk w5 w.heap.size 23 #[.string s, .int .i64 M]) := hide (by rw [hw5]; exact ⟨below_drewN HB4.out.1 j5, HB4.out.2.1.drewN j5⟩); have kx5 : Bk w5 w2.heap.size 23 #[.string s2, .int .i64 N2] := (by rw [hw5]; exact HB4.out.2.2.1.drewN j5); obtain ⟨p50, p51⟩ := two_cells HB5.out.2; obtain ⟨y50, y51⟩ := two_cells kx5; clear hw5 p40 p41 y40 y41 kx5) | (go_at_call 7; refine (Calls.mono (HRd.out _ HB5.out.1) ?_); rintro e w6 ⟨rfl, hb6⟩; have be6 := HB5.out.1.trans (hb6.mono HB5.out.1.size)))
      go_ret
      exact ⟨rfl, be6⟩
    · obtain ⟨u, hu⟩ : ∃ u, u = (tabR ls s n).1 := ⟨_, rfl⟩
      have hub : (u == 0) = false := by rw [hu]; simpa using h0
      have hwr := fun (W : World) (hb : Below w.heap.size w W) => back_nowrite A ls c n s W ((H.out.below hb).more hb.size) hlen hs hn hu.symm
      have HA := hide hwr
      clear hwr hsz hu h0
      go_enter Tryd.func3, Tryd.ntmps3
      go_wp2_with (first | (go_at_call 5; refine (Calls.mono (lives22 q0 q1 _ (HS.out.below be0 (Nat.le_refl _))) ?_); rintro e w1 ⟨rfl, hb1⟩; have be1 := Below.alloc_trans (Below.refl w.heap.size w) (Nat.le_refl _) hb1; have kb1 := kb0.keep hb1; have hz1 := be1.size; obtain ⟨p10, p11⟩ := two_cells kb1; have hq1 := kb1.lt; have HB1 := hide (And.intro be1 kb1); clear hb1 be1 kb1) | (go_at_call 6; have HB1x := HB1; clear HB1; refine (Calls.mono (HA.out _ HB1x.out.1) ?_); rintro e w2 ⟨⟨s2, n2, rfl⟩, hb2⟩; have be2 := HB1x.out.1.trans (hb2.mono hz1); have kb2 := HB1x.out.2.keep hb2; have hz2 := be2.size; have be2' := be2.alloc hz2 (.cells #[.string s2, .int .i64 n2] 23); have kb2' := kb2.alloc (.cells #[.string s2, .int .i64 n2] 23); obtain ⟨p20, p21⟩ := two_cells kb2; have hq2 := kb2.lt; have HB5 := hide (And.intro be2' kb2'); clear hb2 be2 kb2 be2' kb2' p10 p11) | (go_at_call 7; refine (Calls.mono (HRd.out _ HB5.out.1) ?_); rintro e w6 ⟨rfl, hb6⟩; have be6 := HB5.out.1.trans (hb6.mono HB5.out.1.size)))
      go_ret
      exact ⟨rfl, be6⟩
#print axioms tableBack_any
end Go.Proofs.YtggffiikfelbjaaDoor
