/- Walk: wringerlaw21.CanonBack. -/
import Derived.Test.YtggffiikfelbjaaBackPlain
import Derived.Test.YtggffiikfelbjaaLives21
namespace Go.Proofs.Ytggffiikfelbjaa
open Go.RowKit

/-- Behind a right writing, each reading gives the symbol. -/
theorem back_read {ls xs : List Int} {x : Nat} {l l' : List Bool} {s : ByteArray} {n : Int} (hok : okL ls = true) (hbs : Bs s n l') (h : writeL ls ((x : Int) :: xs) l = (0, l')) :
    ∃ m : Nat, ls[x]? = some (m : Int) ∧ 1 ≤ m ∧ m ≤ 15 ∧ readR ls s n (l.length : Nat) = ((x : Int), ((l.length + m : Nat) : Int), (0 : Int)) ∧ (l ++ codeB ls x).length = l.length + m ∧ l.length + m ≤ 1048576 ∧ writeL ls xs (l ++ codeB ls x) = (0, l') := by
  obtain ⟨h1, h2⟩ := writeL_cons h
  rw [Int.toNat_natCast] at h1 h2
  obtain ⟨m, hx, m1, m15, _, hl⟩ := stepW_zero hok h1
  obtain ⟨r, hr⟩ := writeL_more h2
  have hlen : (l ++ codeB ls x).length = l.length + m := by rw [List.length_append]; unfold codeB; rw [natBits_length, lenN_of hx, Int.toNat_natCast]
  obtain ⟨n, rfl⟩ : ∃ k : Nat, n = k := ⟨l'.length, hbs.2.1⟩
  have hn : l.length ≤ n := by have := hbs.2.1; have e : l'.length = (l ++ codeB ls x ++ r).length := by rw [hr]
                               rw [List.length_append] at e; omega
  refine ⟨m, hx, m1, m15, ?_, hlen, hl, h2⟩
  unfold readR
  rw [if_pos hbs.1, if_pos hok, if_neg (by omega), Int.toNat_natCast, Int.toNat_natCast]
  rw [hr] at hbs
  exact next_sym hok hx m1 m15 hbs
theorem back_cut {ls xs : List Int} {l' : List Bool} {s s' : ByteArray} {n n' : Int} (hr : rightB s n = true) (h : writeL ls xs (bitsL s n.toNat) = (0, l')) (hbs : Bs s' n' l') :
    cutW s' n' 0 n = 0 ∧ ∀ s2 n2, Bs s2 n2 (((bitsL s' n'.toNat).drop (0 : Int).toNat).take n.toNat) → s2 = s ∧ n2 = n := by
  obtain ⟨r, hrr⟩ := writeL_more h
  have hn := rightB_n hr
  obtain ⟨n, rfl⟩ := Int.eq_ofNat_of_zero_le hn.1
  have e : n' = (l'.length : Nat) := hbs.2.1
  rw [Int.toNat_natCast] at hrr
  have hle : n ≤ l'.length := by rw [hrr, List.length_append, bitsL_length]; omega
  constructor
  · unfold cutW
    rw [if_pos hbs.1, if_neg (by omega), if_neg (by omega)]
  · intro s2 n2 h2
    rw [e, Int.toNat_natCast, Int.toNat_natCast, hbs.2.2] at h2
    simp only [Int.toNat_zero, List.drop_zero] at h2
    rw [hrr, List.take_left' (bitsL_length _ _)] at h2
    exact h2.one (Bs.of_right hr)

set_option maxRecDepth 100000 in
set_option maxHeartbeats 4000000 in
theorem canonBack_any (A As : Option Addr) (ls xs : List Int) (c cs : Nat) (s : ByteArray) (n : Int) (w : World) (h : Rd w w.heap.size A (ls.map (.int .i64))) (hlen : ls.length ≤ 9223372036854775807)
    (hxs : Rd w w.heap.size As (xs.map (.int .u64))) (hxl : xs.length ≤ 9223372036854775807) (hxr : ∀ x ∈ xs, U64 x) (hn : I64 n) (hs : s.size ≤ 9223372036854775807) :
    Calls Try.prog 6 #[bstr s n, .slice A ls.length c, .slice As xs.length cs] w fun e w' => e = .returned (.bool true) ∧ Below w.heap.size w w' := by
  have H := hide h
  have HX := hide hxs
  have HXr := hide hxr
  clear h hxs hxr
  have wr : ∀ W, Below w.heap.size w W → Calls Try.prog 20 #[bstr s n, .slice A ls.length c, .slice As xs.length cs] W (WriteP (writeR ls s n xs) s n W) := fun W hW =>
    cwrite_any A As ls xs c cs s n W ((H.out.below hW).more hW.size) ((HX.out.below hW).more hW.size) hlen hxl HXr.out hn hs
  have HWr := hide wr
  clear wr
  by_cases hw0 : (writeR ls s n xs).1 = 0
  · obtain ⟨hr, hok, hwl⟩ : rightB s n = true ∧ okL ls = true ∧ writeR ls s n xs = writeL ls xs (bitsL s n.toNat) := by
      unfold writeR at hw0 ⊢
      by_cases a : rightB s n = true
      · by_cases b : okL ls = true
        · rw [if_pos a, if_pos b]; exact ⟨a, b, rfl⟩
        · rw [if_pos a, if_neg b] at hw0; cases hw0
      · rw [if_neg a] at hw0; cases hw0
    have hwl2 : writeL ls xs (bitsL s n.toNat) = (0, (writeR ls s n xs).2) := by rw [← hwl]; exact Prod.ext hw0 rfl
    obtain ⟨L, hL⟩ : ∃ L, L = (writeR ls s n xs).2 := ⟨_, rfl⟩
    rw [← hL] at hwl2
    have hwr2 : ∀ W, Below w.heap.size w W → Calls Try.prog 20 #[bstr s n, .slice A ls.length c, .slice As xs.length cs] W fun e w' => ∃ s' n', e = .returned (.tuple #[bstr s' n', .int .i64 0]) ∧ Bs s' n' L ∧ Below W.heap.size W w' := fun W hW => by
      refine (HWr.out W hW).mono ?_
      rintro e w' ⟨s', n', rfl, h0, _, _, hb⟩
      rw [← hL] at h0
      exact ⟨s', n', by rw [hw0], h0 hw0, hb⟩
    clear HWr
    have HWr := hide hwr2
    have HWl := hide hwl2
    have HR := hide hr
    have HK := hide hok
    have hnr := rightB_n hr
    obtain ⟨n, rfl⟩ := Int.eq_ofNat_of_zero_le hnr.1
    have hnb : n ≤ 1048576 := by omega
    clear hwr2 hwl2 hwl hw0 hL hr hok hnr
    go_enter Try.func6, Try.ntmps6
    go_wp2_with (first
      | (go_at_call 12; refine (lives21 _).mono ?_; rintro e w1 ⟨rfl, hb1⟩; have kb := (Bk.new w _ _).keep hb1; have hbe1 : Below w.heap.size w w1 := ((Below.refl _ _).alloc (Nat.le_refl _) _).trans (hb1.mono (by simp)); have hz1 := kb.lt; obtain ⟨p0, p1⟩ := two_cells kb)
      | (go_at_call 20; refine (Calls.mono (HWr.out _ hbe1) ?_); rintro e w2 ⟨s', n', rfl, hbs, hb2⟩; have kb2 := kb.keep hb2; have hbe2 : Below w.heap.size w w2 := hbe1.trans (hb2.mono hbe1.size); have hz2 := kb2.lt; have hbn := hbs.1; have hbn2 := rightB_n hbn; obtain ⟨n', rfl⟩ := Int.eq_ofNat_of_zero_le hbn2.1; have HBs := hide hbs; obtain ⟨q0, q1⟩ := two_cells kb2; clear hbs hbn))
    obtain ⟨p2, p3⟩ := two_cells (kb2.alloc (.cells #[.string s', .int .i64 n'] 35))
    have kx0 := Bk.new w2 35 #[.string s', .int .i64 n']
    have kb0 := kb2.alloc (.cells #[.string s', .int .i64 n'] 35)
    have hbe0 := hbe2.alloc (Nat.le_of_lt hz2) (.cells #[.string s', .int .i64 n'] 35)
    have HBe0 := hide hbe0
    have KX0 := hide kx0
    have KB0 := hide kb0
    clear hb1 hb2 kb kb2 p0 p1 hbe0 kx0 kb0
    go_loopw [9, 32] (fun a i wr => ∃ (k : Nat) (l : List Bool), k ≤ xs.length ∧ i = .int .i64 k ∧ a = .int .i64 (l.length : Nat) ∧ Hid (writeL ls (xs.drop k) l = (0, L)) ∧ Bk wr w.heap.size 35 #[.string s, .int .i64 n] ∧
      Bk wr w2.heap.size 35 #[.string s', .int .i64 n'] ∧ Below w.heap.size w wr) (fun _ i _ => xs.length - (intOf i).toNat)
    case atStart => exact ⟨0, bitsL s n, by omega, rfl, by rw [bitsL_length], hide (by rw [List.drop_zero]; exact HWl.out), KB0.out, KX0.out, HBe0.out⟩
    case round =>
      obtain ⟨k, l, hk, rfl, rfl, hwl, kb, kx, hbe⟩ := hrel
      obtain ⟨r0, r1⟩ := two_cells kb
      obtain ⟨r2, r3⟩ := two_cells kx
      by_cases hlt : k < xs.length
      · obtain ⟨b, o, x, hAs, hbb, hx, hc0⟩ := HX.out.int hlt
        subst hAs
        obtain ⟨u1, u2⟩ := HXr.out x (List.mem_of_getElem? hx)
        obtain ⟨x, rfl⟩ := Int.eq_ofNat_of_zero_le u1
        have hc := (hbe.cell (p := ⟨b, o + k, none⟩) hbb).trans hc0
        have hd := hwl.out
        rw [drop_cons_of hx] at hd
        obtain ⟨m, hm, m1, m15, hrd, hlen2, hl2, hnx⟩ := back_read HK.out HBs.out hd
        obtain ⟨b2, o2, z', hA, hbb2, hzx', hcz0⟩ := H.out.int (List.getElem?_eq_some_iff.1 hm).1
        rw [hm] at hzx'; cases hzx'
        subst hA
        have hxl2 : x < ls.length := (List.getElem?_eq_some_iff.1 hm).1
        obtain ⟨Q, hQ⟩ : ∃ Q, Q = l.length := ⟨_, rfl⟩
        rw [← hQ] at hrd hlen2 hl2 ⊢
        have rdc : ∀ W, Below w.heap.size w W → Calls Try.prog 22 #[bstr s' n', .int .i64 Q, .slice (some ⟨b2, o2, none⟩) ls.length c] W fun e w' => e = .returned (.tuple #[.int .u64 (x : Nat), .int .i64 (Q + m : Nat), .int .i64 0]) ∧ Below W.heap.size W w' := fun W hW => by
          refine (read_any _ ls c s' n' Q W ((H.out.below hW).more hW.size) hlen ⟨by omega, by omega⟩ ⟨by omega, by omega⟩ (by have := HBs.out.len; omega)).mono ?_
          rintro e w' ⟨rfl, hb⟩
          rw [hrd]; exact ⟨rfl, hb⟩
        have HRd := hide rdc
        have HNx := hide hnx
        have HLn := hide hlen2
        have HCz := hide hcz0
        have e1 : IntKind.i64.wrap (((Q + m : Nat) : Int) - (Q : Int)) = (m : Int) := by rw [show ((Q + m : Nat) : Int) - (Q : Int) = m by omega]; exact IntWalk.i64_in _ ⟨by omega, by omega⟩
        clear hc0 hx hd hrd rdc hnx hm hQ hlen2 hcz0
        go_wp2_with (go_at_call 22; refine (Calls.mono (HRd.out _ hbe) ?_); rintro e w3 ⟨rfl, hb3⟩; have hbe3 : Below w.heap.size w w3 := hbe.trans (hb3.mono hbe.size); have hcz3 := (hbe3.cell (p := ⟨b2, o2 + x, none⟩) hbb2).trans HCz.out)
        go_roundw
        case rel => exact ⟨k + 1, l ++ codeB ls x, by omega, by go_num, by rw [HLn.out]; go_num, HNx, kb.keep hb3, kx.keep hb3, hbe3⟩
        case measure => simp [intOf]; omega
      · have hd := hwl.out
        rw [List.drop_eq_nil_of_le (by omega), writeL] at hd
        have hlL : l = L := by have := congrArg Prod.snd hd; exact this
        have hn'l : n' = l.length := by rw [hlL]; have := HBs.out.2.1; omega
        have hct := back_cut HR.out HWl.out HBs.out
        have cut : Calls Try.prog 24 #[bstr s' n', .int .i64 0, .int .i64 n] wr fun e w' => e = .returned (.tuple #[bstr s n, .int .i64 0]) ∧ Below wr.heap.size wr w' := by
          refine (cut_any s' n' 0 n wr ⟨by omega, by omega⟩ ⟨by omega, by omega⟩ ⟨by omega, by omega⟩ (by have := HBs.out.len; omega)).mono ?_
          rintro e w' ⟨s2, n2, rfl, h0, _, hb⟩
          obtain ⟨rfl, rfl⟩ := hct.2 s2 n2 (h0 hct.1)
          rw [hct.1]; exact ⟨rfl, hb⟩
        have HCut := hide cut
        obtain ⟨Q, hQ⟩ : ∃ Q, Q = l.length := ⟨_, rfl⟩
        rw [← hQ] at hn'l ⊢
        subst hn'l
        clear hd hlL hct cut hQ hwl
        go_wp2_with (go_at_call 24; refine (Calls.mono HCut.out ?_); rintro e w3 ⟨rfl, hb3⟩; have hbe3 : Below w.heap.size w w3 := hbe.trans (hb3.mono hbe.size); have kb3 := kb.keep hb3; have kx3 := kx.keep hb3; obtain ⟨t0, t1⟩ := two_cells kb3; obtain ⟨t2, t3⟩ := two_cells kx3; have hz3 := kb3.lt; have hz4 := kx3.lt; obtain ⟨t4, t5⟩ := two_cells (Bk.new w3 35 #[.string s, .int .i64 n]); obtain ⟨t6, t7⟩ := two_cells (kb3.alloc (.cells #[.string s, .int .i64 n] 35)); obtain ⟨t8, t9⟩ := two_cells (kx3.alloc (.cells #[.string s, .int .i64 n] 35)))
        go_ret
        exact ⟨rfl, hbe3.alloc (by omega) _⟩
  · obtain ⟨R, hR⟩ : ∃ R, R = (writeR ls s n xs).1 := ⟨_, rfl⟩
    have hwr2 : ∀ W, Below w.heap.size w W → Calls Try.prog 20 #[bstr s n, .slice A ls.length c, .slice As xs.length cs] W fun e w' => ∃ s' n', e = .returned (.tuple #[bstr s' n', .int .i64 R]) ∧ Below W.heap.size W w' := fun W hW => by
      refine (HWr.out W hW).mono ?_
      rintro e w' ⟨s', n', rfl, _, _, _, hb⟩
      exact ⟨s', n', by rw [hR], hb⟩
    rw [← hR] at hw0
    have hRb : (R != 0) = true := by simpa using hw0
    clear HWr
    have HWr := hide hwr2
    clear hR hw0 hwr2
    go_enter Try.func6, Try.ntmps6
    go_wp2_with (first
      | (go_at_call 12; refine (lives21 _).mono ?_; rintro e w1 ⟨rfl, hb1⟩; have kb := (Bk.new w _ _).keep hb1; have hbe1 : Below w.heap.size w w1 := ((Below.refl _ _).alloc (Nat.le_refl _) _).trans (hb1.mono (by simp)); have hz1 := kb.lt; obtain ⟨p0, p1⟩ := two_cells kb)
      | (go_at_call 20; refine (Calls.mono (HWr.out _ hbe1) ?_); rintro e w2 ⟨s', n', rfl, hb2⟩))
    go_ret
    exact ⟨rfl, (hbe1.trans (hb2.mono hbe1.size)).alloc (by have := hb2.size; omega) _⟩
end Go.Proofs.Ytggffiikfelbjaa
