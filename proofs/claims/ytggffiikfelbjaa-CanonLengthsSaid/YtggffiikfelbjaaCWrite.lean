/- Walk: canon.Write. -/
import Derived.Test.YtggffiikfelbjaaNext
import Derived.Test.YtggffiikfelbjaaRef03
namespace Go.Proofs.Ytggffiikfelbjaa
open Go.RowKit

/-- A symbol's bits. -/
def codeB (ls : List Int) (x : Nat) : List Bool := natBits (codeN ls x) (lenN ls x)
/-- Why a symbol isn't written behind some bits; 0: it is. -/
def stepW (ls : List Int) (x : Nat) (l : List Bool) : Int := if ls.length ≤ x then 1 else if ls.getD x 0 = 0 then 3 else if 1048576 - ls.getD x 0 < l.length then 8 else 0
def writeL (ls : List Int) : List Int → List Bool → Int × List Bool
  | [], l => (0, l)
  | x :: xs, l => if stepW ls x.toNat l = 0 then writeL ls xs (l ++ codeB ls x.toNat) else (stepW ls x.toNat l, [])
/-- What Write answers: why, and the bits. -/
def writeR (ls : List Int) (s : ByteArray) (n : Int) (xs : List Int) : Int × List Bool :=
  if rightB s n then if okL ls then writeL ls xs (bitsL s n.toNat) else (7, []) else (2, [])
def WriteP (r : Int × List Bool) (s : ByteArray) (n : Int) (w : World) (e : Ending) (w' : World) : Prop :=
  ∃ s' n', e = .returned (.tuple #[bstr s' n', .int .i64 r.1]) ∧ (r.1 = 0 → Bs s' n' r.2) ∧ (r.1 = 2 ∨ r.1 = 7 → s' = ⟨#[]⟩ ∧ n' = 0) ∧ (r.1 = 1 ∨ r.1 = 3 ∨ r.1 = 8 → s' = s ∧ n' = n) ∧ Below w.heap.size w w'
theorem WriteP.zero {r : Int × List Bool} {s : ByteArray} {n k : Int} {w w' : World} (h : r = (k, [])) (hk : k = 2 ∨ k = 7) (hb : Below w.heap.size w w') : WriteP r s n w (.returned (.tuple #[bstr ⟨#[]⟩ 0, .int .i64 k])) w' := by
  subst h; exact ⟨_, _, rfl, fun h => by simp only at h; omega, fun _ => ⟨rfl, rfl⟩, fun h => by simp only at h; omega, hb⟩
theorem WriteP.same {r : Int × List Bool} {s : ByteArray} {n k : Int} {w w' : World} (h : r = (k, [])) (hk : k = 1 ∨ k = 3 ∨ k = 8) (hb : Below w.heap.size w w') : WriteP r s n w (.returned (.tuple #[bstr s n, .int .i64 k])) w' := by
  subst h; exact ⟨_, _, rfl, fun h => by simp only at h; omega, fun h => by simp only at h; omega, fun _ => ⟨rfl, rfl⟩, hb⟩
theorem WriteP.ok {r : Int × List Bool} {s s' : ByteArray} {n n' : Int} {l : List Bool} {w w' : World} (h : r = (0, l)) (hbs : Bs s' n' l) (hb : Below w.heap.size w w') : WriteP r s n w (.returned (.tuple #[bstr s' n', .int .i64 0])) w' := by
  subst h; exact ⟨_, _, rfl, fun _ => hbs, fun h => by simp only at h; omega, fun h => by simp only at h; omega, hb⟩
theorem okL_range {ls : List Int} (h : okL ls = true) {i : Nat} {x : Int} (hx : ls[i]? = some x) : 0 ≤ x ∧ x ≤ 15 := by
  unfold okL at h
  simp only [Bool.and_eq_true, decide_eq_true_eq] at h
  have h := h.1
  unfold roomW at h
  split at h
  · cases h
  · split at h
    · cases h
    · rename_i h1 h2
      have h2 : ls.any (badL 15) = false := by simpa using h2
      rw [List.any_eq_false] at h2
      have := h2 x (List.mem_of_getElem? hx)
      simp [badL] at this
      omega
theorem codeN_lt (ls : List Int) (i : Nat) (h : ls.length ≤ 512) : codeN ls i ≤ 700000000 := by
  unfold codeN
  split
  · rename_i hl
    have h1 := fstC_small h (show lenN ls i ≤ 16 by omega)
    have h2 := cntT_le ls (lenN ls i) i
    omega
  · omega

set_option maxRecDepth 100000 in
set_option maxHeartbeats 4000000 in
theorem cwrite_any (A As : Option Addr) (ls xs : List Int) (c cs : Nat) (s : ByteArray) (n : Int) (w : World) (h : Rd w w.heap.size A (ls.map (.int .i64))) (hxs : Rd w w.heap.size As (xs.map (.int .u64))) (hlen : ls.length ≤ 9223372036854775807) (hxl : xs.length ≤ 9223372036854775807)
    (hxr : ∀ x ∈ xs, U64 x) (hn : I64 n) (hs : s.size ≤ 9223372036854775807) :
    Calls Try.prog 20 #[bstr s n, .slice A ls.length c, .slice As xs.length cs] w (WriteP (writeR ls s n xs) s n w) := by
  have H := hide h
  have HX := hide hxs
  have HXr := hide hxr
  clear h hxs hxr
  have op : ∀ W, Below w.heap.size w W → Calls Try.prog 33 #[.slice A ls.length c] W (OpenP ls A c W) := fun W hW => open_any A ls c W ((H.out.below hW).more hW.size) hlen
  have HO := hide op
  clear op
  by_cases hr : rightB s n = true
  · have hz : chkB s n = 0 := by simp [chkB, hr]
    have hR := rightB_n hr
    obtain ⟨n, rfl⟩ := Int.eq_ofNat_of_zero_le hR.1
    have hb : n ≤ 1048576 := by omega
    have hsz : s.size = (n + 7) / 8 := by omega
    have HSz := hide hsz
    have HR := hide hr
    clear hsz hr hR
    by_cases hok : okL ls = true
    · have HK := hide hok
      have h512 := okL_len hok
      obtain ⟨R, hRe⟩ : ∃ R, R = writeR ls s n xs := ⟨_, rfl⟩
      have hRw : R = writeL ls xs (bitsL s n) := by rw [hRe]; unfold writeR; rw [if_pos HR.out, if_pos HK.out]; rfl
      rw [← hRe]
      have HRw := hide hRw
      clear hok hRe hRw
      go_enter Try.func20, Try.ntmps20
      go_wp2_with (first
        | (go_at_call 37; refine (check_any s n _ hn hs).mono ?_; rintro e w1 ⟨rfl, hb1⟩; rw [hz]; obtain ⟨hc1, hf1⟩ := bcell hb1; have hbz : w.heap.size + 1 < w1.heap.size := (by have := hb1.size; simp at this; omega); have hbz0 : w.heap.size < w1.heap.size := (by omega); have hbe1 : Below w.heap.size w w1 := (((Below.refl _ _).alloc (Nat.le_refl _) _).alloc (by simp) _).trans (hb1.mono (by simp; omega)); have kb := ((Bk.new w 35 #[.string s, .int .i64 n]).alloc (.cells #[.string ⟨#[]⟩, .int .i64 0] 35)).keep hb1; have kr := (Bk.new1 w (.cells #[.string s, .int .i64 n] 35) 35 #[.string ⟨#[]⟩, .int .i64 0]).keep hb1)
        | (go_at_call 33; refine (Calls.mono (HO.out _ hbe1) ?_); rintro e w2 hop; unfold OpenP at hop; rw [if_pos HK.out] at hop; obtain ⟨p, rfl, hbk, hb2⟩ := hop; have HBk := hide hbk; obtain ⟨hc2, hf2⟩ := bcell hb2; have hbe2 : Below w.heap.size w w2 := hbe1.trans (hb2.mono (by omega)); have kb2 := kb.keep hb2; have kr2 := kr.keep hb2; have hbz2 : w.heap.size + 1 < w2.heap.size := (by have := hb2.size; omega); have hbz20 : w.heap.size < w2.heap.size := (by omega); clear hbk)
        | (go_at_call 38; refine (copy_any _ none [] s n _ (Wr.new w2) HSz.out hb (by simp)).mono ?_; rintro e w3 ⟨rfl, row3, hwr3, hrn3, hfr3⟩))
      have hbe3 : Below w2.heap.size w2 w3 := ((Below.refl _ _).alloc (Nat.le_refl _) _).trans (hfr3.toBelowB (fun g hg => by rcases hg with rfl | hg; exact Nat.le_refl _; cases hg) (by simp))
      have hrow3 : ∀ g, row3 = some g → w2.heap.size ≤ g := by
        rintro g rfl
        rcases hrn3 with h | ⟨g', h, hg'⟩
        · cases h
        · simp at h hg'; omega
      rw [List.nil_append] at hwr3
      clear hc1 hf1 hc2 hf2 hb1 hb2 kb kr hrn3 hfr3
      go_loopw [36] (fun i wr => ∃ (k : Nat) (row : Option Nat) (l : List Bool), k ≤ xs.length ∧ i = .int .i64 k ∧ Wr wr w2.heap.size row l ∧ (∀ g, row = some g → w2.heap.size ≤ g) ∧ l.length ≤ 1048576 ∧ Hid (R = writeL ls (xs.drop k) l) ∧ Below w2.heap.size w2 wr) (fun i _ => xs.length - (intOf i).toNat)
      case atStart => exact ⟨0, row3, bitsL s n, by omega, rfl, hwr3, hrow3, by simp; omega, hide (by rw [List.drop_zero]; exact HRw.out), hbe3⟩
      case round =>
        clear hwr3 hrow3 hbe3
        obtain ⟨k, row, l, hk, rfl, hwr, hrow, hll, hRk, hbe⟩ := hrel
        obtain ⟨q0, q1⟩ := two_cells (kb2.below hbe (by omega))
        have krk := kr2.below hbe (by omega)
        obtain ⟨r0, r1⟩ := two_cells krk
        have y0 := krk.free 0
        have y1 := krk.free 1
        have hbew := hbe2.trans (hbe.mono (by omega))
        by_cases hlt : k < xs.length
        · obtain ⟨b, o, x, hAs, hbb, hx, hc0⟩ := HX.out.int hlt
          subst hAs
          obtain ⟨u1, u2⟩ := HXr.out x (List.mem_of_getElem? hx)
          obtain ⟨x, rfl⟩ := Int.eq_ofNat_of_zero_le u1
          have hc := (hbew.cell (p := ⟨b, o + k, none⟩) hbb).trans hc0
          have hRd := hRk.out
          rw [drop_cons_of hx, writeL, Int.toNat_natCast] at hRd
          have hHX := hide hx
          by_cases g1 : ls.length ≤ x
          · have hst : stepW ls x l = 1 := by unfold stepW; rw [if_pos g1]
            rw [if_neg (by rw [hst]; decide), hst] at hRd
            have HRd := hide hRd
            have HWr := hide hwr
            clear hRd hx hc0 hwr hst
            go_wp2_with fail
            obtain ⟨t0, t1⟩ := two_cells ((krk.set_ 0 (.string s)).set_ 1 (.int .i64 n))
            refine bodyPost_ret (v := .tuple #[bstr s n, .int .i64 1]) (by simp [results, Try.results20, go_sem, t0, t1]) rfl ?_
            exact WriteP.same HRd.out (by omega) ((hbew.setCell (by simp) _).setCell (by simp) _)
          · obtain ⟨z, hzx⟩ : ∃ z, ls[x]? = some z := ⟨ls[x], List.getElem?_eq_getElem (by omega)⟩
            have hzr := okL_range HK.out hzx
            obtain ⟨z, rfl⟩ := Int.eq_ofNat_of_zero_le hzr.1
            have hzd : ls.getD x 0 = z := by rw [List.getD_eq_getElem?_getD, hzx]; rfl
            obtain ⟨b2, o2, z', hA, hbb2, hzx', hcz0⟩ := H.out.int (show x < ls.length by omega)
            rw [hzx] at hzx'; cases hzx'
            subst hA
            have hcz := (hbew.cell (p := ⟨b2, o2 + x, none⟩) hbb2).trans hcz0
            have g1' : x < ls.length := by omega
            have HZ := hide hzx
            have HZd := hide hzd
            have HWr := hide hwr
            by_cases g2 : z = 0
            · have hst : stepW ls x l = 3 := by unfold stepW; rw [if_neg g1, if_pos (by rw [hzd, g2]; rfl)]
              rw [if_neg (by rw [hst]; decide), hst] at hRd
              have HRd := hide hRd
              have hz0 : ((z : Int) == 0) = true := by simp [g2]
              subst g2
              clear hRd hx hc0 hwr hst hzx hzd hcz0
              go_wp2_with fail
              all_goals
                obtain ⟨t0, t1⟩ := two_cells ((krk.set_ 0 (.string s)).set_ 1 (.int .i64 n))
                first
                  | (exfalso; simp_all; done)
                  | (refine bodyPost_ret (v := .tuple #[bstr s n, .int .i64 3]) (by simp [results, Try.results20, go_sem, t0, t1]) rfl ?_
                     exact WriteP.same HRd.out (by omega) ((hbew.setCell (by simp) _).setCell (by simp) _))
            · have hz0 : ((z : Int) == 0) = false := by simp; omega
              have cl : ∀ m, Calls Try.prog 39 #[.pointer (some ⟨w2.heap.size, 0, none⟩)] (wr.drewN m) fun e w' => e = .returned (.int .i64 (l.length : Nat)) ∧ ∃ j, w' = (wr.drewN m).drewN j := fun m => len_any w2.heap.size row l (wr.drewN m) (hwr.drewN m) (by omega)
              have HCl := hide cl
              obtain ⟨Q, hQ⟩ : ∃ Q, Q = l.length := ⟨_, rfl⟩
              have e1 : IntKind.i64.wrap (1048576 - (z : Int)) = 1048576 - (z : Int) := IntWalk.i64_in _ ⟨by omega, by omega⟩
              by_cases g3 : 1048576 - (z : Int) < (l.length : Nat)
              · have hst : stepW ls x l = 8 := by unfold stepW; rw [if_neg g1, if_neg (by rw [hzd]; omega), if_pos (by rw [hzd]; exact g3)]
                rw [if_neg (by rw [hst]; decide), hst] at hRd
                have HRd := hide hRd
                clear hRd hx hc0 hwr hst hzx hzd hcz0 cl g2
                go_wp2_with fail
                go_quiet ((go_at_call 39; exact Calls.quiet_of (HCl.out _)))
                go_wp2_with fail
                all_goals
                  obtain ⟨t0, t1⟩ := two_cells (((krk.drewN nq).set_ 0 (.string s)).set_ 1 (.int .i64 n))
                  first
                    | (exfalso; omega)
                    | (refine bodyPost_ret (v := .tuple #[bstr s n, .int .i64 8]) (by simp [results, Try.results20, go_sem, t0, t1]) rfl ?_
                       exact WriteP.same HRd.out (by omega) (((below_drewN hbew nq).setCell (by simp) _).setCell (by simp) _))
              · have hst : stepW ls x l = 0 := by unfold stepW; rw [if_neg g1, if_neg (by rw [hzd]; omega), if_neg (by rw [hzd]; exact g3)]
                rw [if_pos hst] at hRd
                have HRd := hide hRd
                have hz15 : z ≤ 15 := by omega
                have hcn := codeN_lt ls x h512
                have cd : ∀ m, Calls Try.prog 41 #[.pointer (some ⟨p, 0, none⟩), .int .i64 x] (wr.drewN m) fun e w' => e = .returned (.tuple #[.int .u64 (codeN ls x : Nat), .int .i64 z]) ∧ ∃ j, w' = (wr.drewN m).drewN j := fun m =>
                  code_any w2.heap.size p ls _ c x z (wr.drewN m) ((HBk.out.below hbe).drewN m) HZ.out
                have HCd := hide cd
                have hll2 : l.length + z ≤ 1048576 := by omega
                have ad : ∀ m, Calls Try.prog 40 #[.pointer (some ⟨w2.heap.size, 0, none⟩), .int .u64 (codeN ls x : Nat), .int .i64 z] (wr.drewN m) fun e w' => e = .returned (.tuple #[]) ∧ ∃ row', Wr w' w2.heap.size row' (l ++ natBits (codeN ls x) z) ∧ rowNew (wr.drewN m) row row' ∧ Fr (wS w2.heap.size row) (wr.drewN m) w' := fun m =>
                  add_any w2.heap.size row l (codeN ls x) z (wr.drewN m) (by omega) (by omega) (hwr.drewN m) (by omega)
                have HAd := hide ad
                obtain ⟨V, hV⟩ : ∃ V, V = codeN ls x := ⟨_, rfl⟩
                rw [← hV] at HCd HAd
                have HVe := hide hV
                clear hRd hx hc0 hwr hst hzx hzd hcz0 cl g2 cd ad hcn hV
                go_wp2_with fail
                go_quiet ((go_at_call 39; exact Calls.quiet_of (HCl.out _)))
                go_wp2_with (first
                  | (go_at_call 41; refine (Calls.mono (HCd.out _) ?_); rintro e w4 ⟨rfl, j4, rfl⟩)
                  | (go_at_call 40; refine (Calls.mono (HAd.out _) ?_); rintro e w5 ⟨rfl, row5, hwr5, hrn5, hfr5⟩))
                have hcode : codeB ls x = natBits V z := by unfold codeB; rw [lenN_of HZ.out, Int.toNat_natCast, HVe.out]
                go_roundw
                case rel =>
                  refine ⟨k + 1, row5, l ++ natBits V z, by omega, by go_num, hwr5, ?_, by simp; omega, hide (by rw [← hcode]; exact HRd.out), ?_⟩
                  · rintro g rfl
                    rcases hrn5 with h | ⟨g', h, hg'⟩
                    · exact hrow g h.symm
                    · have hsz := hbe.size
                      have : g = g' := by simpa using h
                      subst this
                      exact Nat.le_trans hsz hg'
                  · exact (below_drewN hbe _).trans (hfr5.toBelowB (fun g hg => by rcases hg with rfl | hg; exact Nat.le_refl _; exact hrow g hg) hbe.size)
                case measure => simp [intOf]; omega
        · have hRd := hRk.out
          rw [List.drop_eq_nil_of_le (by omega), writeL] at hRd
          have HRd := hide hRd
          clear hRd
          go_wp2_with (go_at_call 42; refine (wbits_any w2.heap.size row l _ hwr (by omega)).mono ?_; rintro e w5 ⟨S, rfl, hbs, hb5⟩; have k5 := krk.keep hb5; obtain ⟨v0, v1⟩ := two_cells k5; have x0 := k5.free 0; have x1 := k5.free 1)
          obtain ⟨t0, t1⟩ := two_cells ((k5.set_ 0 (.string S)).set_ 1 (.int .i64 (l.length : Nat)))
          refine bodyPost_ret (v := .tuple #[bstr S (l.length : Nat), .int .i64 0]) (by simp [results, Try.results20, go_sem, t0, t1]) rfl ?_
          exact WriteP.ok HRd.out hbs (((hbew.trans (hb5.mono (by have := hbew.size; omega))).setCell (by simp) _).setCell (by simp) _)
    · have hok : okL ls = false := by simpa using hok
      have hf : writeR ls s n xs = (7, []) := by unfold writeR; rw [if_pos HR.out, if_neg (by rw [hok]; decide)]
      have HF := hide hf
      have HK := hide hok
      clear hf hok
      go_enter Try.func20, Try.ntmps20
      go_wp2_with (first
        | (go_at_call 37; refine (check_any s n _ hn hs).mono ?_; rintro e w1 ⟨rfl, hb1⟩; rw [hz]; obtain ⟨hc1, hf1⟩ := bcell hb1; have hbz : w.heap.size + 1 < w1.heap.size := (by have := hb1.size; simp at this; omega); have hbz0 : w.heap.size < w1.heap.size := (by omega); have hbe1 : Below w.heap.size w w1 := (((Below.refl _ _).alloc (Nat.le_refl _) _).alloc (by simp) _).trans (hb1.mono (by simp; omega)); have kr := (Bk.new1 w (.cells #[.string s, .int .i64 n] 35) 35 #[.string ⟨#[]⟩, .int .i64 0]).keep hb1)
        | (go_at_call 33; refine (Calls.mono (HO.out _ hbe1) ?_); rintro e w2 hop; unfold OpenP at hop; rw [if_neg (by rw [HK.out]; decide)] at hop; obtain ⟨rfl, rfl⟩ := hop))
      obtain ⟨t0, t1⟩ := two_cells ((kr.set_ 0 (.string ⟨#[]⟩)).set_ 1 (.int .i64 0))
      refine bodyPost_ret (v := .tuple #[bstr ⟨#[]⟩ 0, .int .i64 7]) (by simp [results, Try.results20, go_sem, t0, t1]) rfl ?_
      exact WriteP.zero HF.out (by omega) ((hbe1.setCell (by simp) _).setCell (by simp) _)
  · have hz : chkB s n = 2 := by simp [chkB, hr]
    have hf : writeR ls s n xs = (2, []) := by unfold writeR; rw [if_neg hr]
    have HF := hide hf
    clear hf hr
    go_enter Try.func20, Try.ntmps20
    go_wp2_with (go_at_call 37; refine (check_any s n _ hn hs).mono ?_; rintro e w1 ⟨rfl, hb1⟩; rw [hz]; obtain ⟨hc1, hf1⟩ := bcell hb1; have hbz : w.heap.size + 1 < w1.heap.size := (by have := hb1.size; simp at this; omega); have hbz0 : w.heap.size < w1.heap.size := (by omega); have hbe1 : Below w.heap.size w w1 := (((Below.refl _ _).alloc (Nat.le_refl _) _).alloc (by simp) _).trans (hb1.mono (by simp; omega)); have kr := (Bk.new1 w (.cells #[.string s, .int .i64 n] 35) 35 #[.string ⟨#[]⟩, .int .i64 0]).keep hb1)
    obtain ⟨t0, t1⟩ := two_cells ((kr.set_ 0 (.string ⟨#[]⟩)).set_ 1 (.int .i64 0))
    refine bodyPost_ret (v := .tuple #[bstr ⟨#[]⟩ 0, .int .i64 2]) (by simp [results, Try.results20, go_sem, t0, t1]) rfl ?_
    exact WriteP.zero HF.out (by omega) ((hbe1.setCell (by simp) _).setCell (by simp) _)
end Go.Proofs.Ytggffiikfelbjaa
