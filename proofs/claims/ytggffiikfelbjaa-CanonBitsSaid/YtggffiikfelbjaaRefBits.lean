/- Walks: wringerref01.All, Of, Put. -/
import Derived.Test.YtggffiikfelbjaaPackBits
import Derived.Test.YtggffiikfelbjaaWriter
import Derived.Test.YtggffiikfelbjaaOf
import Derived.Test.YtggffiikfelbjaaBitsA
namespace Go.Proofs.Ytggffiikfelbjaa
open Go.RowKit

theorem info_bool : (Try.prog.info? 4).map (fun i => (i.zero, i.size, i.bytes)) = some (some (.bool false), 1, 1) := by kernel_rfl

set_option maxRecDepth 100000 in
set_option maxHeartbeats 2000000 in
theorem all_any (s : ByteArray) (n : Nat) (w : World) (hn : n ≤ 1048576) (hs : s.size = (n + 7) / 8) :
    Calls Try.prog 61 #[bstr s n] w fun e w' => ∃ A c, e = .returned (.slice A n c) ∧ w'.ownsRow w.heap.size 4 1 (.slice A n c) n ((bitsL s n).map Value.bool) ∧ Below w.heap.size w w' := by
  obtain ⟨i0, hi, iz0, iz1, iz2⟩ := info_parts info_bool
  have hsz : s.size ≤ 131072 := by omega
  have HS := hide hs
  clear hs
  go_enter Try.func61, Try.ntmps61
  go_wp2_with fail
  go_loopw [3, 4] (fun v i wr => ∃ k : Nat, k ≤ n ∧ i = .int .i64 k ∧ Hid (wr.ownsRow w.heap.size 4 1 v k ((bitsL s k).map Value.bool)) ∧ Bk wr w.heap.size 35 #[.string s, .int .i64 n] ∧ Below w.heap.size w wr) (fun _ i _ => n - (intOf i).toNat)
  case atStart => exact ⟨0, by omega, rfl, World.ownsRow_nil _ _ _ _, Bk.new _ _ _, by go_grown⟩
  case round =>
    obtain ⟨k, hk, rfl, hown, hbk, hbe⟩ := hrel
    obtain ⟨q0, q1⟩ := two_cells hbk
    have hz := hbk.lt
    by_cases hlt : k < n
    · have is := is_any s n k wr (by have := HS.out; omega) (by omega) (by omega)
      obtain ⟨b, hb⟩ : ∃ b, b = bitAt s k := ⟨_, rfl⟩
      rw [← hb] at is
      have HIs := hide is
      have HB := hide hb
      clear is hb
      go_wp2_with (first
        | (go_at_call 47; refine (Calls.mono HIs.out ?_); rintro e w1 ⟨rfl, hb1⟩; have hown1 := hide (own_fr hown.out (Fr.below hb1 (fun _ => False)) (fun _ _ h => h)); have hbk1 := hbk.keep hb1; have hbe1 := hbe.trans (hb1.mono hbe.size); have hz1 := hbk1.lt)
        | (at_builtin; refine wpList_append_own _ rfl (.tmp 11) (.tmp 15) 95 rfl w.heap.size 4 i0 (.bool false) 1 1 Try.underlying95 hi iz0 iz1 iz2 rfl (by decide) _ _ _ rfl (hown1.out.alloc _) ⟨w1.heap.size, 0, none⟩ 1 1 [.bool b] rfl rfl (cell_one_new _ _ _) (by intro u hu; simp at hu; subst hu; rfl) (by unfold maxLen; omega) (by omega) (by simp; omega) ?_; intro v' w2 hown2 hgr2 _))
      have hbe2 := ((hbe1.alloc (Nat.le_of_lt hz1) (.cells #[.bool b] 4))).grown hgr2 (by simp; omega) (fun g hg => ((hown1.out.alloc (.cells #[.bool b] 4)).lt g hg).1)
      have hne := own_ne (hown1.out.alloc (.cells #[.bool b] 4)) (hbk1.alloc (.cells #[.bool b] 4)) (by decide)
      have hbk2 := (hbk1.alloc (.cells #[.bool b] 4)).grown hgr2 hne
      go_roundw
      case rel => exact ⟨k + 1, by omega, by go_num, hide (by rw [bitsL_more, List.map_append, ← HB.out]; exact hown2), hbk2, hbe2⟩
      case measure => simp [intOf]; omega
    · obtain rfl : k = n := by omega
      have HO := hide (own_form' hown.out)
      obtain ⟨A, c, rfl, _⟩ := HO.out
      go_wp2_with fail
      go_ret
      exact ⟨A, c, rfl, hown.out, hbe⟩

set_option maxRecDepth 100000 in
set_option maxHeartbeats 2000000 in
theorem ofBits_any (A : Option Addr) (l : List Bool) (c : Nat) (w : World) (h : Rd w w.heap.size A (l.map Value.bool)) (hl : l.length ≤ 1048576) :
    Calls Try.prog 62 #[.slice A l.length c] w fun e w' => ∃ s, e = .returned (bstr s (l.length : Nat)) ∧ Bs s (l.length : Nat) l ∧ Below w.heap.size w w' := by
  have H := hide h
  clear h
  have hmk := run_make_row' (P := Try.prog) 65 5 (.int .u8 0) 1 Try.underlying65 info_u8 rfl .i64 .i64 ((l.length + 7) / 8) (by omega) (by omega)
  rw [show (((l.length + 7) / 8 : Nat) : Int) = ((l.length : Int) + 7) / 8 by omega] at hmk
  go_enter Try.func62, Try.ntmps62
  go_wp2_with fail
  go_loopw [13] (fun i wr => ∃ (k : Nat) (B : List Nat), k ≤ l.length ∧ i = .int .i64 k ∧ Hid (PackSt l k B) ∧ Bk wr (w.heap.size + 1) 5 (vby B).toArray ∧ Bk wr w.heap.size 35 #[.string ⟨#[]⟩, .int .i64 0] ∧ Below w.heap.size w wr) (fun i _ => l.length - (intOf i).toNat)
  case atStart =>
    refine ⟨0, List.replicate ((l.length + 7) / 8) 0, by omega, rfl, PackSt.zero l, ?_, (Bk.new _ _ _).alloc _, by go_grown⟩
    have e : (vby (List.replicate ((l.length + 7) / 8) 0)).toArray = madeCells #[.int .u8 0] ((l.length + 7) / 8) := by
      apply Array.ext
      · simp [size_madeCells, vby]
      · intro i h1 h2; simp [madeCells, vby, Nat.mod_one]
    rw [e]
    exact Bk.new1 _ _ _ _
  case round =>
    obtain ⟨k, B, hk, rfl, hst, hbb, hbk, hbe⟩ := hrel
    by_cases hlt : k < l.length
    · obtain ⟨b, o, hA, hbw, hc0⟩ := H.out k (.bool l[k]) (by simp [hlt])
      subst hA
      have hc := (hbe.cell (p := ⟨b, o + k, none⟩) hbw).trans hc0
      have hgd : l.getD k false = l[k] := by simp [List.getD_eq_getElem?_getD, hlt]
      obtain ⟨X, hX⟩ : ∃ X, X = l[k] := ⟨_, rfl⟩
      rw [← hX] at hc hgd
      clear hX hc0
      cases X
      · have hst2 := hst.out.skip hgd
        have HSt := hide hst2
        clear hst2 hgd hst
        go_wp2_with fail
        go_roundw
        case rel => exact ⟨k + 1, B, by omega, by go_num, HSt, hbb, hbk, hbe⟩
        case measure => simp [intOf]; omega
      · obtain ⟨x, hx, hx256, hxz, hxs⟩ := hst.out.byte hlt
        have hst2 := hst.out.put hlt hgd hx
        have HSt := hide hst2
        have hk8 : k / 8 < (l.length + 7) / 8 := by omega
        have c0 : wr.cell? ⟨w.heap.size + 1, k / 8, none⟩ = some (.int .u8 (x : Nat)) := (hbb.cell (k / 8)).trans (by simp [vby, hx])
        have f0 := hbb.free (k / 8)
        obtain ⟨P, hP⟩ : ∃ P, P = 2 ^ (7 - k % 8) := ⟨_, rfl⟩
        rw [← hP] at hxs HSt
        have hP' : (2 : Int) ^ (7 - k % 8) = (P : Int) := by rw [hP, Int.natCast_pow]; rfl
        clear hst2 hgd hst hx hxz hP
        go_wp2_with fail
        go_roundw
        case rel =>
          refine ⟨k + 1, B.set (k / 8) (x + P), by omega, by go_num, HSt, ?_, hbk.far (p := ⟨w.heap.size + 1, k / 8, none⟩) (by simp) _, hbe.setCell (by simp) _⟩
          have := hbb.set_ (k / 8) (.int .u8 ((x : Int) + (P : Int)))
          rw [List.setIfInBounds_toArray] at this
          rw [show vby (B.set (k / 8) (x + P)) = (vby B).set (k / 8) (.int .u8 ((x : Int) + (P : Int))) by unfold vby; rw [List.map_set]; rfl]
          exact this
        case measure => simp [intOf]; omega
    · obtain rfl : k = l.length := by omega
      have hBl := hst.out.1
      have hbs := hst.out.bs hl
      have hrd : Rd wr wr.heap.size (some ⟨w.heap.size + 1, 0, none⟩) (vby B) := fun i u hu => ⟨w.heap.size + 1, 0, rfl, hbb.lt, by rw [Nat.zero_add, hbb.cell i, List.getElem?_toArray]; exact hu⟩
      have cv := run_conv Try.prog wr 65 5 Try.underlying65 Try.underlying5 9 Try.underlying9 hrd ((l.length + 7) / 8)
      rw [hBl] at cv
      have z0 := hbk.free 0
      have z1 := hbk.free 1
      have HBs := hide hbs
      have HRd := hide hrd
      obtain ⟨q0, q1⟩ := two_cells hbk
      clear hbs hrd hst
      go_wp2_with fail
      obtain ⟨t0, t1⟩ := two_cells ((hbk.set_ 0 (.string (strOf B))).set_ 1 (.int .i64 (l.length : Nat)))
      refine bodyPost_ret (v := .agg #[.string (strOf B), .int .i64 (l.length : Nat)]) (by simp [results, Try.results62, go_sem, t0, t1]) rfl ?_
      exact ⟨strOf B, rfl, HBs.out, (hbe.setCell (Nat.le_refl _) _).setCell (Nat.le_refl _) _⟩

/-- What Put answers. -/
def PutP (s : ByteArray) (n V m : Nat) (w : World) (e : Ending) (w' : World) : Prop := ∃ s' n' k, e = .returned (.tuple #[bstr s' n', .int .i64 k]) ∧
  ((k = 8 ∧ 1048576 - (m : Int) < (n : Nat)) ∨ (k = 0 ∧ ¬ 1048576 - (m : Int) < (n : Nat) ∧ Bs s' n' (bitsL s n ++ natBits V m))) ∧ Below w.heap.size w w'
set_option maxRecDepth 100000 in
set_option maxHeartbeats 4000000 in
theorem refPut_any (s : ByteArray) (n V m : Nat) (w : World) (hr : rightB s n = true) (hm : m ≤ 15) (hV : V < 2 ^ m) :
    Calls Try.prog 44 #[bstr s n, .int .u64 V, .int .i64 m] w (PutP s n V m w) := by
  obtain ⟨i0, hi, iz0, iz1, iz2⟩ := info_parts info_bool
  have hz : chkB s n = 0 := by simp [chkB, hr]
  have hR := rightB_n hr
  have hb : n ≤ 1048576 := by omega
  have hsz : s.size = (n + 7) / 8 := by omega
  have hsb : s.size ≤ 131072 := by omega
  have hv0 : (V : Int) / 2 ^ m = 0 := by
    have e : (V : Int) / 2 ^ m = ((V / 2 ^ m : Nat) : Int) := by rw [Int.natCast_ediv, Int.natCast_pow]; rfl
    rw [e, Nat.div_eq_of_lt hV]; rfl
  have hVb : V < 32768 := Nat.lt_of_lt_of_le hV (Nat.pow_le_pow_right (n := 2) (by omega) hm)
  have HSz := hide hsz
  have HR := hide hr
  have HV := hide hV
  clear hsz hr hR hV
  by_cases g : 1048576 - (m : Int) < (n : Nat)
  · have gd : decide (1048576 - (m : Int) < (n : Nat)) = true := decide_eq_true g
    have HG := hide g
    clear g
    go_enter Try.func44, Try.ntmps44
    go_wp2_with (first
      | (go_at_call 43; refine (refCheck_any s n _ ⟨by omega, by omega⟩ (by omega)).mono ?_; rintro e w1 ⟨rfl, hb1⟩; rw [hz]; have kb := ((Bk.new w _ _).alloc _).keep hb1; have kr := (Bk.new1 w _ _ _).keep hb1; obtain ⟨q0, q1⟩ := two_cells kb; obtain ⟨r0, r1⟩ := two_cells kr; have y0 := kr.free 0; have y1 := kr.free 1; have hbe1 : Below w.heap.size w w1 := (((Below.refl _ _).alloc (Nat.le_refl _) _).alloc (by simp) _).trans (hb1.mono (by simp; omega))))
    obtain ⟨t0, t1⟩ := two_cells ((kr.set_ 0 (.string s)).set_ 1 (.int .i64 n))
    refine bodyPost_ret (v := .tuple #[bstr s n, .int .i64 8]) (by simp [results, Try.results44, go_sem, t0, t1]) rfl ?_
    exact ⟨s, n, 8, rfl, .inl ⟨rfl, HG.out⟩, (hbe1.setCell (by simp) _).setCell (by simp) _⟩
  · have gd : decide (1048576 - (m : Int) < (n : Nat)) = false := decide_eq_false g
    have HG := hide g
    clear g
    go_enter Try.func44, Try.ntmps44
    go_wp2_with (first
      | (go_at_call 43; refine (refCheck_any s n _ ⟨by omega, by omega⟩ (by omega)).mono ?_; rintro e w1 ⟨rfl, hb1⟩; rw [hz]; have kb := ((Bk.new w _ _).alloc _).keep hb1; have kr := (Bk.new1 w _ _ _).keep hb1; obtain ⟨q0, q1⟩ := two_cells kb; obtain ⟨r0, r1⟩ := two_cells kr; have y0 := kr.free 0; have y1 := kr.free 1; have hbe1 : Below w.heap.size w w1 := (((Below.refl _ _).alloc (Nat.le_refl _) _).alloc (by simp) _).trans (hb1.mono (by simp; omega)))
      | (go_at_call 61; refine (all_any s n _ hb HSz.out).mono ?_; rintro e w2 ⟨A, c, rfl, hown, hb2⟩; have hown' := own_base (base' := w.heap.size) hown (fun g hg => Nat.le_trans hbe1.size (hown.lt g hg).1); have HOwn := hide hown'; have kr2 := kr.keep hb2; have hbe2 := hbe1.trans (hb2.mono hbe1.size); clear hown hown'))
    have HB2 := hide hbe2
    have KR2 := hide kr2
    clear kb kr kr2 q0 q1 r0 r1 y0 y1 hbe1 hbe2 hb1 hb2
    go_loopw [8, 9] (fun v i wr => ∃ d : Nat, d ≤ m ∧ i = .int .i64 ((d : Int) - 1) ∧ Hid (wr.ownsRow w.heap.size 4 1 v (n + (m - d)) ((bitsL s n ++ (natBits V m).take (m - d)).map Value.bool)) ∧ Bk wr (w.heap.size + 1) 35 #[.string ⟨#[]⟩, .int .i64 0] ∧ Below w.heap.size w wr) (fun _ i _ => (intOf i + 1).toNat)
    case atStart => exact ⟨m, by omega, rfl, hide (by rw [Nat.sub_self, List.take_zero, List.append_nil]; exact HOwn.out), KR2.out, HB2.out⟩
    case round =>
      clear HOwn KR2 HB2
      obtain ⟨d, hd, rfl, hown, kr, hbe⟩ := hrel
      have hzr := kr.lt
      rcases Nat.eq_zero_or_pos d with rfl | hd0
      · have e0 : ((0 : Nat) : Int) - 1 = -1 := rfl
        rw [e0]
        have HO := hide (own_form' hown.out)
        obtain ⟨A2, c2, rfl, hrd⟩ := HO.out
        have hlen : (bitsL s n ++ natBits V m).length = n + m := by simp
        rw [Nat.sub_zero, List.take_of_length_le (by simp)] at hrd
        have HRd := hide hrd
        have z0 := kr.free 0
        have z1 := kr.free 1
        have of := ofBits_any A2 (bitsL s n ++ natBits V m) c2 wr hrd (by rw [hlen]; have := HG.out; omega)
        rw [hlen] at of
        rw [Nat.sub_zero]
        obtain ⟨T, hT⟩ : ∃ T, T = n + m := ⟨_, rfl⟩
        have HT := hide hT
        rw [← hT] at of ⊢
        clear hT
        have HOf := hide of
        clear hrd of hown HO
        go_wp2_with (go_at_call 62; refine (Calls.mono HOf.out ?_); rintro e w3 ⟨s3, rfl, hbs, hb3⟩; have kr3 := kr.keep hb3; obtain ⟨x0, x1⟩ := two_cells kr3; have y0 := kr3.free 0; have y1 := kr3.free 1; have HBs := hide hbs; clear hbs)
        obtain ⟨t0, t1⟩ := two_cells ((kr3.set_ 0 (.string s3)).set_ 1 (.int .i64 (T : Nat)))
        refine bodyPost_ret (v := .tuple #[bstr s3 (T : Nat), .int .i64 0]) (by simp [results, Try.results44, go_sem, t0, t1]) rfl ?_
        exact ⟨s3, (T : Nat), 0, rfl, .inr ⟨rfl, Int.not_lt.2 HG.out, HBs.out⟩, (((hbe.trans (hb3.mono hbe.size))).setCell (by simp) _).setCell (by simp) _⟩
      · obtain ⟨e, rfl⟩ : ∃ e, d = e + 1 := ⟨d - 1, by omega⟩
        have e0 : ((e + 1 : Nat) : Int) - 1 = (e : Int) := by omega
        rw [e0]
        obtain ⟨Q, hQ⟩ : ∃ Q, Q = V / 2 ^ e := ⟨_, rfl⟩
        have hQ' : (V : Int) / 2 ^ e = (Q : Int) := by rw [hQ, Int.natCast_ediv, Int.natCast_pow]; rfl
        obtain ⟨b, hb⟩ : ∃ b, b = (Q % 2 == 1) := ⟨_, rfl⟩
        have hb' : (((Q : Int) % 2) == 1) = b := by
          rw [hb]
          rcases Nat.mod_two_eq_zero_or_one Q with g | g
          · rw [g, show (Q : Int) % 2 = 0 by omega]; rfl
          · rw [g, show (Q : Int) % 2 = 1 by omega]; rfl
        have hb2 : b = (V / 2 ^ (m - 1 - (m - (e + 1))) % 2 == 1) := by rw [hb, hQ, show m - 1 - (m - (e + 1)) = e by omega]
        have HB := hide hb2
        clear hQ hb hb2
        go_wp2_with (at_builtin; refine wpList_append_own _ rfl (.tmp 46) (.tmp 53) 95 rfl w.heap.size 4 i0 (.bool false) 1 1 Try.underlying95 hi iz0 iz1 iz2 rfl (by decide) _ _ _ rfl (hown.out.alloc _) ⟨wr.heap.size, 0, none⟩ 1 1 [.bool b] rfl rfl (cell_one_new _ _ _) (by intro u hu; simp at hu; subst hu; rfl) (by unfold maxLen; omega) (by omega) (by simp; omega) ?_; intro v' w2 hown2 hgr2 _)
        have hbe2 := ((hbe.alloc (by omega) (.cells #[.bool b] 4))).grown hgr2 (by simp; omega) (fun g hg => ((hown.out.alloc (.cells #[.bool b] 4)).lt g hg).1)
        have hne := own_ne (hown.out.alloc (.cells #[.bool b] 4)) (kr.alloc (.cells #[.bool b] 4)) (by decide)
        have kr2 := (kr.alloc (.cells #[.bool b] 4)).grown hgr2 hne
        go_roundw
        case rel => exact ⟨e, by omega, by first | rfl | go_num, hide (by rw [show m - e = (m - (e + 1)) + 1 by omega, natBits_more V (by omega), ← HB.out, ← List.append_assoc, List.map_append]; exact hown2), kr2, hbe2⟩
        case measure => simp [intOf]
end Go.Proofs.Ytggffiikfelbjaa
