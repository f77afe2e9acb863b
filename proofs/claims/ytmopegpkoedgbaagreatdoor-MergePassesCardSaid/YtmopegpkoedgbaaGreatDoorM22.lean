/- Lemmas for the row: FlowC, FlowD, MrgH, MrgI, MrgJ. -/
import Derived.Test.YtmopegpkoedgbaaGreatDoorM20
import Derived.Test.YtmopegpkoedgbaaGreatDoorM21
import Derived.Deep.RegionHeld3
set_option linter.unusedVariables false
set_option linter.unusedSimpArgs false
/- Walk: flow.Begin. -/
namespace Go.Proofs.YtmopegpkoedgbaaGreatDoor
open Go.RowKit Go.Sort

/-- An operation that did not begin: it has no arena. -/
def WkNo (w : World) (h : Nat) (was : Dsk) : Prop := ∃ E0 W0, Bk w h 120 #[.pointer none, .int .i64 was.size, E0, W0, .int .i64 was.fuse, .bool was.down, .slice none 0 0, .int .u64 0, .int .u64 0, .int .i64 0] ∧
  w.ownsRow 0 77 2 E0 was.exts.length (flatE was.exts) ∧ w.ownsRow 0 79 3 W0 was.waits.length (flatW was.waits)
theorem WkNo.keep {w w' : World} {h : Nat} {was : Dsk} (hw : WkNo w h was) (hb : Below w.heap.size w w') : WkNo w' h was := by
  obtain ⟨E0, W0, h1, h2, h3⟩ := hw
  exact ⟨E0, W0, h1.keep hb, own_keep h2 hb, own_keep h3 hb⟩
set_option maxRecDepth 100000 in
set_option maxHeartbeats 8000000 in
theorem begin_any (v : Value) (d : Dsk) (budget : Int) (w : World) (hv : Dv w w.heap.size v d) (hz : SzD d) :
    Calls Tryz.prog 42 #[v, .int .i64 budget] w fun e w' => ∃ h ev, e = .returned (.tuple #[.pointer (some ⟨h, 0, none⟩), ev]) ∧ Below w.heap.size w w' ∧ w.heap.size ≤ h ∧ ErrV w' ev (beginW d budget) ∧ (beginW d budget ≠ 0 → WkNo w' h (openD d).1) ∧
      (beginW d budget = 0 → ∃ B p, WkAt w' B h p d zeroX ∧ ArAt w' B p (overA d budget.toNat) ∧ (∀ g, B.ok g → w.heap.size ≤ g) ∧ InvA (overA d budget.toNat)) := by
  have hop := fun (W : World) (h : Below w.heap.size w W) => open_disk v d W ((hv.below h).more h.size) hz
  have hfl := fun (d : ByteArray) (z : Int) W => fail_any d z W
  have HOp := hide hop
  have HFl := hide hfl
  have HZ := hide hz
  obtain ⟨AE, cE, AW, cW, rfl, hE, hW⟩ := hv
  obtain ⟨Be, hBe⟩ : ∃ Be, Be = beginW d budget := ⟨_, rfl⟩
  have hbe : Be = if (openD d).2 ≠ 0 then (openD d).2 else if budget < 24 then 9 else if 256 < budget then 1 else 0 := hBe
  rw [← hBe]
  have hop1 : (openD d).2 = 0 → (openD d).1 = d := fun h => by
    unfold openD at *
    split
    · rfl
    · rename_i h2; rw [if_neg h2] at h; simp at h
  have hri := openD_right d
  obtain ⟨O, hO⟩ : ∃ O, O = openD d := ⟨_, rfl⟩
  rw [← hO] at HOp hbe hop1 hri ⊢
  obtain ⟨d1, e1⟩ := O
  dsimp only at HOp hbe hop1 hri ⊢
  clear hop hfl hE hW hO hBe hz
  obtain ⟨wB, hwB⟩ : ∃ wB, wB = w.alloc (.cells #[.int .i64 d.size, .slice AE d.exts.length cE, .slice AW d.waits.length cW, .int .i64 d.fuse, .bool d.down] 25) := ⟨_, rfl⟩
  have hbB : Below w.heap.size w wB := by rw [hwB]; exact ba1 _ _
  have hkB : Bk wB w.heap.size 25 #[.int .i64 d.size, .slice AE d.exts.length cE, .slice AW d.waits.length cW, .int .i64 d.fuse, .bool d.down] := by rw [hwB]; exact Bk.new _ _ _
  obtain ⟨c0, c1, c2, c3, c4⟩ := five_cells hkB
  have hlB := hkB.lt
  have HbB := hide hbB
  have HWB := hide hwB
  have HOpB := hide (HOp.out wB hbB)
  clear hbB hkB hwB
  by_cases h1 : e1 = 0
  · subst h1
    obtain rfl := hop1 rfl
    rw [if_neg (by simp)] at hbe
    by_cases h2 : budget < 24
    · rw [if_pos h2] at hbe
      subst hbe
      clear hop1
      go_enter Tryz.func42, Tryz.ntmps42
      go_wp2_with (first
        | (go_at_call 72
           rw [← HWB.out]
           refine Calls.mono HOpB.out ?_
           rintro e w1 ⟨q, rfl, hd1, hb1⟩
           obtain ⟨E, V, k1, k2, k3, k4⟩ := hd1
           obtain ⟨AE1, cE1, rfl⟩ := own_formk k2
           obtain ⟨AW1, cW1, rfl⟩ := own_formk k3
           obtain ⟨y0, y1, y2, y3, y4⟩ := five_cells k1
           have hql := k1.lt
           have HE1 := hide k2
           have HV1 := hide k3
           have HB1 := hide hb1
           clear k1 k2 k3 k4 hb1)
        | (go_at_call 56; refine Calls.mono (HFl.out _ _ _) ?_; rintro e w3 ⟨ev, rfl, he3, hb3⟩; have HF3 := hide he3; have HB3 := hide hb3; clear he3 hb3))
      refine bodyPost_ret (v := .tuple #[.pointer (some ⟨w1.heap.size, 0, none⟩), ev]) (by simp [results, Tryz.results42, go_sem]) rfl ?_
      exact ⟨w1.heap.size, ev, rfl, btrans (btrans HbB.out HB1.out) (btrans (ba1 _ _) HB3.out), Nat.le_trans HbB.out.size HB1.out.size, ⟨_, HF3.out⟩, fun _ => ⟨_, _, (Bk.new w1 _ _).keep HB3.out, own_keep (own_keep HE1.out (ba1 _ _)) HB3.out, own_keep (own_keep HV1.out (ba1 _ _)) HB3.out⟩, fun e => absurd e (by first | decide | assumption)⟩
    · by_cases h3 : 256 < budget
      · rw [if_neg h2, if_pos h3] at hbe
        subst hbe
        clear hop1
        go_enter Tryz.func42, Tryz.ntmps42
        go_wp2_with (first
          | (go_at_call 72
             rw [← HWB.out]
             refine Calls.mono HOpB.out ?_
             rintro e w1 ⟨q, rfl, hd1, hb1⟩
             obtain ⟨E, V, k1, k2, k3, k4⟩ := hd1
             obtain ⟨AE1, cE1, rfl⟩ := own_formk k2
             obtain ⟨AW1, cW1, rfl⟩ := own_formk k3
             obtain ⟨y0, y1, y2, y3, y4⟩ := five_cells k1
             have hql := k1.lt
             have HE1 := hide k2
             have HV1 := hide k3
             have HB1 := hide hb1
             clear k1 k2 k3 k4 hb1)
          | (go_at_call 56; refine Calls.mono (HFl.out _ _ _) ?_; rintro e w3 ⟨ev, rfl, he3, hb3⟩; have HF3 := hide he3; have HB3 := hide hb3; clear he3 hb3))
        refine bodyPost_ret (v := .tuple #[.pointer (some ⟨w1.heap.size, 0, none⟩), ev]) (by simp [results, Tryz.results42, go_sem]) rfl ?_
        exact ⟨w1.heap.size, ev, rfl, btrans (btrans HbB.out HB1.out) (btrans (ba1 _ _) HB3.out), Nat.le_trans HbB.out.size HB1.out.size, ⟨_, HF3.out⟩, fun _ => ⟨_, _, (Bk.new w1 _ _).keep HB3.out, own_keep (own_keep HE1.out (ba1 _ _)) HB3.out, own_keep (own_keep HV1.out (ba1 _ _)) HB3.out⟩, fun e => absurd e (by first | decide | assumption)⟩
      · rw [if_neg h2, if_neg h3] at hbe
        subst hbe
        obtain ⟨n, rfl⟩ : ∃ n : Nat, budget = (n : Int) := ⟨budget.toNat, by omega⟩
        rw [Int.toNat_natCast]
        have how := fun (W : World) (u : Value) (h : Dv W W.heap.size u d1) => own_any u d1 W h HZ.out.exts HZ.out.waits
        have hov := fun (B : Fld) (q : Nat) (W : World) (h : DvAt W B q d1) => over_any B q n d1 W h (by omega) (by omega)
        have HOw := hide how
        have HOv := hide hov
        clear how hov
        go_enter Tryz.func42, Tryz.ntmps42
        go_upto_region 9 with (
          go_at_call 72
          rw [← HWB.out]
          refine Calls.mono HOpB.out ?_
          rintro e w1 ⟨q, rfl, hd1, hb1⟩
          obtain ⟨E, V, k1, k2, k3, k4⟩ := hd1
          obtain ⟨AE1, cE1, rfl⟩ := own_formk k2
          obtain ⟨AW1, cW1, rfl⟩ := own_formk k3
          obtain ⟨y0, y1, y2, y3, y4⟩ := five_cells k1
          have hql := k1.lt
          have HK1 := hide k1
          have HE1 := hide k2
          have HV1 := hide k3
          have HFB := hide k4
          have HB1 := hide hb1
          clear k1 k2 k3 k4 hb1)
        obtain ⟨W2, hW2⟩ : ∃ W2, W2 = w1.alloc (.cells #[.pointer none, .int .i64 d1.size, .slice AE1 d1.exts.length cE1, .slice AW1 d1.waits.length cW1, .int .i64 d1.fuse, .bool d1.down, .slice none 0 0, .int .u64 0, .int .u64 0, .int .i64 0] 120) := ⟨_, rfl⟩
        rw [← hW2]
        have hbW : Below w1.heap.size w1 W2 := by rw [hW2]; exact ba1 _ _
        have kh : Bk W2 w1.heap.size 120 #[.pointer none, .int .i64 d1.size, .slice AE1 d1.exts.length cE1, .slice AW1 d1.waits.length cW1, .int .i64 d1.fuse, .bool d1.down, .slice none 0 0, .int .u64 0, .int .u64 0, .int .i64 0] := by rw [hW2]; exact Bk.new _ _ _
        obtain ⟨h, hhe⟩ : ∃ h, h = w1.heap.size := ⟨_, rfl⟩
        rw [← hhe] at kh ⊢
        have kq := HK1.out.keep hbW
        have kE := own_keep HE1.out hbW
        have kV := own_keep HV1.out hbW
        obtain ⟨z0, z1, z2, z3, z4⟩ := five_cells kq
        have hqW := kq.lt
        have hhW := kh.lt
        have HOwn := hide (HOw.out W2 (.agg #[.int .i64 d1.size, .slice AE1 d1.exts.length cE1, .slice AW1 d1.waits.length cW1, .int .i64 d1.fuse, .bool d1.down]) ⟨AE1, cE1, AW1, cW1, rfl, own_rdk kE, own_rdk kV⟩)
        have HKH := hide kh
        have HKQ := hide kq
        have HKE := hide kE
        have HKV := hide kV
        have HBW := hide hbW
        have HHe := hide hhe
        clear kh kq kE kV hbW hW2 hhe
        go_upto_region 10 with (
          go_at_call 76
          refine Calls.mono HOwn.out ?_
          rintro e w3 ⟨⟨A, c, A', c', rfl, o1, o2⟩, hb3⟩
          have kh3 := HKH.out.keep hb3
          obtain ⟨x0, x1, x2, x3, x4, x5, x6, x7, x8, x9⟩ := ten_cells kh3
          have hh3 := kh3.lt
          have f0 := kh3.free 0
          have f1 := kh3.free 1
          have f2 := kh3.free 2
          have f3 := kh3.free 3
          have f4 := kh3.free 4
          have f5 := kh3.free 5
          have HK3 := hide kh3
          have HO1 := hide o1
          have HO2 := hide o2
          have HB3 := hide hb3
          clear kh3 o1 o2 hb3)
        obtain ⟨W4, hW4⟩ : ∃ W4, W4 = (((((w3.setCell ⟨h, 1, none⟩ (.int .i64 d1.size)).setCell ⟨h, 2, none⟩ (.slice A d1.exts.length c)).setCell ⟨h, 3, none⟩ (.slice A' d1.waits.length c')).setCell ⟨h, 4, none⟩ (.int .i64 d1.fuse)).setCell ⟨h, 5, none⟩ (.bool d1.down)) := ⟨_, rfl⟩
        rw [← hW4]
        have kh4 : Bk W4 h 120 #[.pointer none, .int .i64 d1.size, .slice A d1.exts.length c, .slice A' d1.waits.length c', .int .i64 d1.fuse, .bool d1.down, .slice none 0 0, .int .u64 0, .int .u64 0, .int .i64 0] := by rw [hW4]; exact ((((HK3.out.set_ 1 _).set_ 2 _).set_ 3 _).set_ 4 _).set_ 5 _
        have hf4 : Fr (fun k => k = h) w3 W4 := by
          rw [hW4]
          exact (((((Fr.refl (fun k => k = h) w3).setCell (p := ⟨h, 1, none⟩) (.inl rfl) _).setCell (p := ⟨h, 2, none⟩) (.inl rfl) _).setCell (p := ⟨h, 3, none⟩) (.inl rfl) _).setCell (p := ⟨h, 4, none⟩) (.inl rfl) _).setCell (p := ⟨h, 5, none⟩) (.inl rfl) _
        have hs4 : W4.heap.size = w3.heap.size := by rw [hW4]; simp [size_setCell]
        clear hW4
        have o1 := own_fr HO1.out hf4 (fun k hk e => own_ne HO1.out HK3.out (by decide) (by rw [hk, e]))
        have o2 := own_fr HO2.out hf4 (fun k hk e => own_ne HO2.out HK3.out (by decide) (by rw [hk, e]))
        have kq3 := HKQ.out.keep HB3.out
        have kq4 := kq3.fr hf4 (fun e => kq3.ne_ HK3.out (by decide) e)
        have e3 := own_keep HKE.out HB3.out
        have v3 := own_keep HKV.out HB3.out
        have e4 := own_fr e3 hf4 (fun k hk e => own_ne e3 HK3.out (by decide) (by rw [hk, e]))
        have v4 := own_fr v3 hf4 (fun k hk e => own_ne v3 HK3.out (by decide) (by rw [hk, e]))
        have hsB := HbB.out.size
        have hs1 := HB1.out.size
        have hs2 := HBW.out.size
        have hs3 := HB3.out.size
        obtain ⟨B, hB⟩ : ∃ B : Fld, (∀ g, B.ok g ↔ w.heap.size ≤ g ∧ (Value.slice A d1.exts.length c).ownBlock ≠ some g ∧ (Value.slice A' d1.waits.length c').ownBlock ≠ some g) ∧ B.top = w3.heap.size :=
          ⟨⟨fun g => w.heap.size ≤ g ∧ (Value.slice A d1.exts.length c).ownBlock ≠ some g ∧ (Value.slice A' d1.waits.length c').ownBlock ≠ some g, w3.heap.size, fun g hg => ⟨by omega, fun e => by have := (HO1.out.lt g e).2; omega, fun e => by have := (HO2.out.lt g e).2; omega⟩⟩, fun g => Iff.rfl, rfl⟩
        have hin : ∀ k, w.heap.size ≤ k → k < W2.heap.size → B.ok k := fun k hk hk2 => (hB.1 k).2 ⟨hk, fun e => by have := (HO1.out.lt k e).1; omega, fun e => by have := (HO2.out.lt k e).1; omega⟩
        have hd4 : DvAt W4 B q d1 := ⟨_, _, kq4, e4, v4, ⟨hin q (Nat.le_trans hsB HFB.out.1.dev) (Nat.lt_of_lt_of_le hql hs2), fun k hk => hin k (Nat.le_trans hsB (HFB.out.1.exts k hk)) (HKE.out.lt k hk).2, fun k hk => hin k (Nat.le_trans hsB (HFB.out.1.waits k hk)) (HKV.out.lt k hk).2, by rw [hB.2]; omega⟩, HFB.out.2⟩
        have HOvr := hide (HOv.out B q W4 hd4)
        obtain ⟨x0, x1, x2, x3, x4, x5, x6, x7, x8, x9⟩ := ten_cells kh4
        have hh4 := kh4.lt
        have hbel : Below w.heap.size w W4 := (btrans (btrans HbB.out HB1.out) (btrans HBW.out HB3.out)).trans (Fr.toBelowB hf4 (fun g hg => by have := HHe.out; omega) (by omega))
        have HK4 := hide kh4
        have HP1 := hide o1
        have HP2 := hide o2
        have HB4 := hide hbel
        have HBf := hide hB
        clear kh4 o1 o2 hbel kq3 kq4 e3 v3 e4 v4 hf4 hB hin hd4
        go_wp2_with (go_at_call 77; refine Calls.mono HOvr.out ?_; rintro e w5 ⟨p, rfl, hp, ha5, hb5⟩; have kh5 := HK4.out.keep hb5; have hh5 := kh5.lt; have g0 := kh5.free 0; have g1 := kh5.cell 0; have HA5 := hide ha5; have HB5 := hide hb5; have HK5 := hide kh5; clear ha5 hb5 kh5)
        refine bodyPost_ret (v := .tuple #[.pointer (some ⟨h, 0, none⟩), .nilIface]) (by simp [results, Tryz.results42, go_sem]) rfl ?_
        have hl : w.heap.size ≤ h := by have := HHe.out; omega
        have p1 := own_keep HP1.out HB5.out
        have p2 := own_keep HP2.out HB5.out
        refine ⟨h, _, rfl, (btrans HB4.out HB5.out).setCell (p := ⟨h, 0, none⟩) hl _, hl, ⟨⟨#[]⟩, .inl ⟨rfl, rfl⟩⟩, fun e => absurd rfl e, fun _ => ⟨B, p, ⟨_, _, HK5.out.set_ 0 _, own_mono (own_set p1 (p := ⟨h, 0, none⟩) (fun e => own_ne p1 HK5.out (by decide) e.symm) _) (Nat.zero_le _), own_mono (own_set p2 (p := ⟨h, 0, none⟩) (fun e => own_ne p2 HK5.out (by decide) e.symm) _) (Nat.zero_le _), fun k hk hb => ((HBf.out.1 k).1 hb).2.1 hk, fun k hk hb => ((HBf.out.1 k).1 hb).2.2 hk⟩, HA5.out.far HK5.out work_not 0 _, fun g hg => ((HBf.out.1 g).1 hg).1, ⟨hri, fun f hf hh => ?_⟩⟩⟩
        obtain rfl : f = zeroF := List.eq_of_mem_replicate hf
        rw [zero_not] at hh
        cases hh
  · rw [if_pos h1] at hbe
    subst hbe
    have hb : (Be != 0) = true := by simp [h1]
    clear hop1
    go_enter Tryz.func42, Tryz.ntmps42
    go_wp2_with (first
      | (go_at_call 72
         rw [← HWB.out]
         refine Calls.mono HOpB.out ?_
         rintro e w1 ⟨q, rfl, hd1, hb1⟩
         obtain ⟨E, V, k1, k2, k3, k4⟩ := hd1
         obtain ⟨AE1, cE1, rfl⟩ := own_formk k2
         obtain ⟨AW1, cW1, rfl⟩ := own_formk k3
         obtain ⟨y0, y1, y2, y3, y4⟩ := five_cells k1
         have hql := k1.lt
         have HE1 := hide k2
         have HV1 := hide k3
         have HB1 := hide hb1
         clear k1 k2 k3 k4 hb1)
      | (go_at_call 56; refine Calls.mono (HFl.out _ _ _) ?_; rintro e w3 ⟨ev, rfl, he3, hb3⟩; have HF3 := hide he3; have HB3 := hide hb3; clear he3 hb3))
    refine bodyPost_ret (v := .tuple #[.pointer (some ⟨w1.heap.size, 0, none⟩), ev]) (by simp [results, Tryz.results42, go_sem]) rfl ?_
    exact ⟨w1.heap.size, ev, rfl, btrans (btrans HbB.out HB1.out) (btrans (ba1 _ _) HB3.out), Nat.le_trans HbB.out.size HB1.out.size, ⟨_, HF3.out⟩, fun _ => ⟨_, _, (Bk.new w1 _ _).keep HB3.out, own_keep (own_keep HE1.out (ba1 _ _)) HB3.out, own_keep (own_keep HV1.out (ba1 _ _)) HB3.out⟩, fun e => absurd e (by first | decide | assumption)⟩
end Go.Proofs.YtmopegpkoedgbaaGreatDoor
/- Walk: (*flow.Work).End. -/
namespace Go.Proofs.YtmopegpkoedgbaaGreatDoor
open Go.RowKit Go.Sort

theorem below_drew {w w' : World} {n : Nat} (h : Below n w w') : Below n w w'.drew := ⟨h.os, h.tape, h.output, h.size, h.block⟩
theorem below_undrew {w w' : World} (h : Below w.drew.heap.size w.drew w') : Below w.heap.size w w' := ⟨h.os, h.tape, h.output, h.size, h.block⟩
/-- A disk's value is stored; a cost's. -/
def put5 (w : World) (b : Nat) (a0 a1 a2 a3 a4 : Value) : World := ((((w.setCell ⟨b, 0, none⟩ a0).setCell ⟨b, 1, none⟩ a1).setCell ⟨b, 2, none⟩ a2).setCell ⟨b, 3, none⟩ a3).setCell ⟨b, 4, none⟩ a4
def put3 (w : World) (b : Nat) (a0 a1 a2 : Value) : World := ((w.setCell ⟨b, 0, none⟩ a0).setCell ⟨b, 1, none⟩ a1).setCell ⟨b, 2, none⟩ a2
theorem put5_fr (w : World) (b : Nat) (a0 a1 a2 a3 a4 : Value) : Fr (fun k => k = b) w (put5 w b a0 a1 a2 a3 a4) := by
  unfold put5
  exact (((((Fr.refl (fun k => k = b) w).setCell (p := ⟨b, 0, none⟩) (.inl rfl) _).setCell (p := ⟨b, 1, none⟩) (.inl rfl) _).setCell (p := ⟨b, 2, none⟩) (.inl rfl) _).setCell (p := ⟨b, 3, none⟩) (.inl rfl) _).setCell (p := ⟨b, 4, none⟩) (.inl rfl) _
theorem put3_fr (w : World) (b : Nat) (a0 a1 a2 : Value) : Fr (fun k => k = b) w (put3 w b a0 a1 a2) := by
  unfold put3
  exact (((Fr.refl (fun k => k = b) w).setCell (p := ⟨b, 0, none⟩) (.inl rfl) _).setCell (p := ⟨b, 1, none⟩) (.inl rfl) _).setCell (p := ⟨b, 2, none⟩) (.inl rfl) _
theorem put5_bk {w : World} {b : Nat} {t : TypeId} {z0 z1 z2 z3 z4 : Value} (h : Bk w b t #[z0, z1, z2, z3, z4]) (a0 a1 a2 a3 a4 : Value) : Bk (put5 w b a0 a1 a2 a3 a4) b t #[a0, a1, a2, a3, a4] := by
  unfold put5
  exact ((((h.set_ 0 a0).set_ 1 a1).set_ 2 a2).set_ 3 a3).set_ 4 a4
theorem put3_bk {w : World} {b : Nat} {t : TypeId} {z0 z1 z2 : Value} (h : Bk w b t #[z0, z1, z2]) (a0 a1 a2 : Value) : Bk (put3 w b a0 a1 a2) b t #[a0, a1, a2] := by
  unfold put3
  exact ((h.set_ 0 a0).set_ 1 a1).set_ 2 a2
/-- A disk as a value, in rows of its own. -/
def DvO (w : World) (v : Value) (d : Dsk) : Prop := ∃ AE cE AW cW, v = .agg #[.int .i64 d.size, .slice AE d.exts.length cE, .slice AW d.waits.length cW, .int .i64 d.fuse, .bool d.down] ∧ w.ownsRow 0 77 2 (.slice AE d.exts.length cE) d.exts.length (flatE d.exts) ∧ w.ownsRow 0 79 3 (.slice AW d.waits.length cW) d.waits.length (flatW d.waits)
/-- Where an operation's results lie. -/
def ResAt (w W : World) (b c : Nat) (a0 a1 a2 a3 a4 c0 c1 c2 : Value) : Prop := Bk W b 25 #[a0, a1, a2, a3, a4] ∧ Bk W c 29 #[c0, c1, c2] ∧ Fr (fun k => k = b ∨ k = c) w W
theorem res_one {w : World} {b c : Nat} {z0 z1 z2 z3 z4 y0 y1 y2 : Value} (h : Bk w b 25 #[z0, z1, z2, z3, z4]) (k : Bk w c 29 #[y0, y1, y2]) (a0 a1 a2 a3 a4 c0 c1 c2 : Value) : ResAt w (put3 (put5 w b a0 a1 a2 a3 a4) c c0 c1 c2) b c a0 a1 a2 a3 a4 c0 c1 c2 := by
  have hne : b ≠ c := fun e => h.ne_ k (by decide) e
  have k1 := k.fr (put5_fr w b a0 a1 a2 a3 a4) (fun e => hne e.symm)
  exact ⟨(put5_bk h a0 a1 a2 a3 a4).fr (put3_fr _ c c0 c1 c2) hne, put3_bk k1 c0 c1 c2, (Fr.mono (put5_fr w b a0 a1 a2 a3 a4) fun _ h => .inl h).trans (put3_fr _ c c0 c1 c2) fun _ h => .inl (.inr h)⟩
theorem res_two {w : World} {b c : Nat} {z0 z1 z2 z3 z4 y0 y1 y2 : Value} (h : Bk w b 25 #[z0, z1, z2, z3, z4]) (k : Bk w c 29 #[y0, y1, y2]) (a0 a1 a2 a3 a4 c0 c1 c2 : Value) : ResAt w (put5 (put3 w c c0 c1 c2) b a0 a1 a2 a3 a4) b c a0 a1 a2 a3 a4 c0 c1 c2 := by
  have hne : b ≠ c := fun e => h.ne_ k (by decide) e
  have h1 := h.fr (put3_fr w c c0 c1 c2) hne
  exact ⟨put5_bk h1 a0 a1 a2 a3 a4, (put3_bk k c0 c1 c2).fr (put5_fr _ b a0 a1 a2 a3 a4) (fun e => hne e.symm), (Fr.mono (put3_fr w c c0 c1 c2) fun _ h => .inr h).trans (put5_fr _ b a0 a1 a2 a3 a4) fun _ h => .inl (.inl h)⟩
set_option maxRecDepth 100000 in
set_option maxHeartbeats 8000000 in
theorem endNo_any (h : Nat) (was : Dsk) (ev : Value) (why : Int) (w : World) (hw : WkNo w h was) (he : ErrV w ev why) (hG : LaidE w) :
    Calls Tryz.prog 44 #[.pointer (some ⟨h, 0, none⟩), ev] w fun e w' => ∃ v, e = .returned (.tuple #[v, .agg #[.int .u64 0, .int .u64 0, .int .i64 0], .int .i64 why]) ∧ DvO w' v was ∧ Below w.heap.size w w' := by
  obtain ⟨E0, W0, hk, hE, hW⟩ := hw
  obtain ⟨AE, cE, rfl⟩ := own_formk hE
  obtain ⟨AW, cW, rfl⟩ := own_formk hW
  obtain ⟨W2, hW2⟩ : ∃ W2, W2 = (w.alloc (.cells #[.int .i64 0, .slice none 0 0, .slice none 0 0, .int .i64 0, .bool false] 25)).alloc (.cells #[.int .u64 0, .int .u64 0, .int .i64 0] 29) := ⟨_, rfl⟩
  have hb2 : Below w.heap.size w W2 := by rw [hW2]; exact btrans (ba1 _ _) (ba1 _ _)
  have kb : Bk W2 w.heap.size 25 #[.int .i64 0, .slice none 0 0, .slice none 0 0, .int .i64 0, .bool false] := by rw [hW2]; exact (Bk.new _ _ _).alloc _
  have kc : Bk W2 (w.heap.size + 1) 29 #[.int .u64 0, .int .u64 0, .int .i64 0] := by rw [hW2]; exact Bk.new1 _ _ _ _
  have hk2 := hk.keep hb2
  obtain ⟨x0, x1, x2, x3, x4, x5, x6, x7, x8, x9⟩ := ten_cells hk2
  have hl2 := hk2.lt
  have hnu := number_any ev why W2.drew (show LaidE W2 from hG.keep (show Below w.heap.size w W2 from hb2)) (show ErrV W2 ev why from he.keep (show Below w.heap.size w W2 from hb2))
  have HNu := hide hnu
  have HW2 := hide hW2
  have HB2 := hide hb2
  have HKB := hide kb
  have HKC := hide kc
  have HK2 := hide hk2
  have HE := hide hE
  have HW := hide hW
  clear hnu hW2 hb2 kb kc hk2 hE hW hk he hG
  go_enter Tryz.func44, Tryz.ntmps44
  go_upto_region 1 with (fail)
  rw [← HW2.out]
  go_upto_region 2 with (fail)
  go_cut [6] (fun s6 wx => s6 = .int .i64 why ∧ Hid (∃ w3, Below W2.heap.size W2 w3 ∧ ResAt w3 wx w.heap.size (w.heap.size + 1) (.int .i64 was.size) (.slice AE was.exts.length cE) (.slice AW was.waits.length cW) (.int .i64 was.fuse) (.bool was.down) (.int .u64 0) (.int .u64 0) (.int .i64 0)))
  case first =>
    go_region_law (go_simp; go_at_call 83; refine Calls.mono HNu.out ?_; rintro e w3 ⟨rfl, hb3⟩; have kh3 := (show Bk W2.drew h _ _ from HK2.out).keep hb3; obtain ⟨z0, z1, z2, z3, z4, z5, z6, z7, z8, z9⟩ := ten_cells kh3; have kb3 := (show Bk W2.drew w.heap.size _ _ from HKB.out).keep hb3; have kc3 := (show Bk W2.drew (w.heap.size + 1) _ _ from HKC.out).keep hb3; obtain ⟨b0, b1, b2, b3, b4⟩ := five_cells kb3; have g0 := kb3.free 0; have g1 := kb3.free 1; have g2 := kb3.free 2; have g3 := kb3.free 3; have g4 := kb3.free 4; have d0 := kc3.cell 0; have d1 := kc3.cell 1; have d2 := kc3.cell 2; have e0 := kc3.free 0; have e1 := kc3.free 1; have e2 := kc3.free 2; have lb := kb3.lt; have lc := kc3.lt; have lh := kh3.lt; have HKB3 := hide kb3; have HKC3 := hide kc3; have HB3 := hide hb3; clear kh3 kb3 kc3 hb3)
    all_goals
      go_wp2_with fail
      go_meet
      refine ⟨rfl, hide ⟨w3, below_undrew HB3.out, ?_⟩⟩
      first
        | exact res_one HKB3.out HKC3.out _ _ _ _ _ _ _ _
        | exact res_two HKB3.out HKC3.out _ _ _ _ _ _ _ _
  case rest =>
    obtain ⟨rfl, HRes⟩ := hcut
    obtain ⟨w3, hb3, r1, r2, r3⟩ := HRes.out
    obtain ⟨t0, t1, t2, t3, t4⟩ := five_cells r1
    have t5 := r2.cell 0
    have t6 := r2.cell 1
    have t7 := r2.cell 2
    have hs2 := HB2.out.size
    have hs3 := hb3.size
    have o1 := own_keep (own_keep HE.out HB2.out) hb3
    have o2 := own_keep (own_keep HW.out HB2.out) hb3
    have o3 := own_fr o1 r3 (fun k hk hs => by have := (HE.out.lt k hk).2; rcases hs with e | e <;> omega)
    have o4 := own_fr o2 r3 (fun k hk hs => by have := (HW.out.lt k hk).2; rcases hs with e | e <;> omega)
    have hbf : Below w.heap.size w wc := (btrans HB2.out hb3).trans (Fr.toBelowB r3 (fun g hg => by rcases hg with e | e <;> omega) (by omega))
    have HO3 := hide o3
    have HO4 := hide o4
    have HBf := hide hbf
    clear o1 o2 o3 o4 hbf r1 r2 r3 hb3 HRes
    go_wp2_with fail
    refine bodyPost_ret (v := .tuple #[.agg #[.int .i64 was.size, .slice AE was.exts.length cE, .slice AW was.waits.length cW, .int .i64 was.fuse, .bool was.down], .agg #[.int .u64 0, .int .u64 0, .int .i64 0], .int .i64 why]) (by simp [results, Tryz.results44, go_sem, t0, t1, t2, t3, t4, t5, t6, t7]) rfl ?_
    exact ⟨_, rfl, ⟨AE, cE, AW, cW, rfl, HO3.out, HO4.out⟩, HBf.out⟩
set_option maxRecDepth 100000 in
set_option maxHeartbeats 8000000 in
theorem end_any (B : Fld) (h p : Nat) (was : Dsk) (a : Ar) (ev : Value) (why : Int) (w : World) (hw : WkAt w B h p was zeroX) (ha : ArAt w B p a) (he : ErrV w ev why) (hG : LaidE w) :
    Calls Tryz.prog 44 #[.pointer (some ⟨h, 0, none⟩), ev] w fun e w' => ∃ v rd wr fr, e = .returned (.tuple #[v, .agg #[.int .u64 rd, .int .u64 wr, .int .i64 fr], .int .i64 why]) ∧ DvO w' v (endW was (some a) why).1 ∧ Below w.heap.size w w' ∧ (why = 0 → fr = max a.peak 0) := by
  obtain ⟨E0, W0, hk, hE, hW, _, _⟩ := hw
  dsimp only [zeroX] at hk
  obtain ⟨AE, cE, rfl⟩ := own_formk hE
  obtain ⟨AW, cW, rfl⟩ := own_formk hW
  obtain ⟨W2, hW2⟩ : ∃ W2, W2 = (w.alloc (.cells #[.int .i64 0, .slice none 0 0, .slice none 0 0, .int .i64 0, .bool false] 25)).alloc (.cells #[.int .u64 0, .int .u64 0, .int .i64 0] 29) := ⟨_, rfl⟩
  have hb2 : Below w.heap.size w W2 := by rw [hW2]; exact btrans (ba1 _ _) (ba1 _ _)
  have kb : Bk W2 w.heap.size 25 #[.int .i64 0, .slice none 0 0, .slice none 0 0, .int .i64 0, .bool false] := by rw [hW2]; exact (Bk.new _ _ _).alloc _
  have kc : Bk W2 (w.heap.size + 1) 29 #[.int .u64 0, .int .u64 0, .int .i64 0] := by rw [hW2]; exact Bk.new1 _ _ _ _
  have hsz : W2.heap.size = w.heap.size + 1 + 1 := by rw [hW2]; simp
  have HSz := hide hsz
  have hn1 : ¬ W2.heap.size = w.heap.size := by omega
  have hn2 : ¬ w.heap.size = W2.heap.size := by omega
  have hn3 : ¬ W2.heap.size = w.heap.size + 1 := by omega
  have hn4 : ¬ w.heap.size + 1 = W2.heap.size := by omega
  clear hsz
  have hk2 := hk.keep hb2
  obtain ⟨x0, x1, x2, x3, x4, x5, x6, x7, x8, x9⟩ := ten_cells hk2
  have hl2 := hk2.lt
  have hnu := fun (W : World) (hb : Below W2.heap.size W2 W) => number_any ev why W ((hG.keep hb2).keep hb) ((he.keep hb2).keep hb)
  have he2 := he.keep hb2
  have HNu := hide hnu
  have HW2 := hide hW2
  have HB2 := hide hb2
  have HKB := hide kb
  have HKC := hide kc
  have HK2 := hide hk2
  have HE := hide hE
  have HW := hide hW
  have HA2 := hide (ha.keep hb2)
  clear hnu hW2 hb2 kb kc hk2 hE hW hk he hG ha
  by_cases hf : why ≠ 0 ∧ why ≠ 10
  · have hend : (endW was (some a) why).1 = was := by unfold endW; dsimp only; rw [if_pos hf]
    rw [hend]
    obtain ⟨tg, doing, rfl, hte⟩ := he2.not hf.1
    have hcond := fun W => is_trouble tg doing why 10 W
    have h10 : (why == 10) = false := by simp [hf.2]
    have hH := is_trouble tg doing why 10 W2 hte
    rw [h10] at hH
    have HIs := hide hH
    have hf0 : ¬ why = 0 := hf.1
    have HF0 := hide hf0
    clear hH hcond hend hte he2 hf hf0
    have HNuD := hide (HNu.out W2.drew ((Below.refl _ W2).drew))
    go_enter Tryz.func44, Tryz.ntmps44
    go_upto_region 1 with (fail)
    rw [← HW2.out]
    go_upto_region 4 with (go_at_call 84; refine Calls.mono HIs.out ?_; rintro e wz ⟨rfl, ewz⟩; obtain rfl : W2 = wz := ewz.symm)
    go_cut [6] (fun s6 wx => s6 = .int .i64 why ∧ Hid (∃ w3, Below W2.heap.size W2 w3 ∧ ResAt w3 wx w.heap.size (w.heap.size + 1) (.int .i64 was.size) (.slice AE was.exts.length cE) (.slice AW was.waits.length cW) (.int .i64 was.fuse) (.bool was.down) (.int .u64 0) (.int .u64 0) (.int .i64 0)))
    case first =>
      go_region_law (go_simp; go_at_call 83; refine Calls.mono HNuD.out ?_; rintro e w3 ⟨rfl, hb3⟩; have kh3 := (show Bk W2.drew h _ _ from HK2.out).keep hb3; obtain ⟨z0, z1, z2, z3, z4, z5, z6, z7, z8, z9⟩ := ten_cells kh3; have kb3 := (show Bk W2.drew w.heap.size _ _ from HKB.out).keep hb3; have kc3 := (show Bk W2.drew (w.heap.size + 1) _ _ from HKC.out).keep hb3; obtain ⟨b0, b1, b2, b3, b4⟩ := five_cells kb3; have g0 := kb3.free 0; have g1 := kb3.free 1; have g2 := kb3.free 2; have g3 := kb3.free 3; have g4 := kb3.free 4; have d0 := kc3.cell 0; have d1 := kc3.cell 1; have d2 := kc3.cell 2; have e0 := kc3.free 0; have e1 := kc3.free 1; have e2 := kc3.free 2; have lb := kb3.lt; have lc := kc3.lt; have lh := kh3.lt; have HKB3 := hide kb3; have HKC3 := hide kc3; have HB3 := hide hb3; clear kh3 kb3 kc3 hb3)
      all_goals
        go_wp2_with fail
        go_meet
        refine ⟨rfl, hide ⟨w3, below_undrew HB3.out, ?_⟩⟩
        first
          | exact res_one HKB3.out HKC3.out _ _ _ _ _ _ _ _
          | exact res_two HKB3.out HKC3.out _ _ _ _ _ _ _ _
    case rest =>
      obtain ⟨rfl, HRes⟩ := hcut
      obtain ⟨w3, hb3, r1, r2, r3⟩ := HRes.out
      obtain ⟨t0, t1, t2, t3, t4⟩ := five_cells r1
      have t5 := r2.cell 0
      have t6 := r2.cell 1
      have t7 := r2.cell 2
      have hs2 := HB2.out.size
      have hs3 := hb3.size
      have o1 := own_keep (own_keep HE.out HB2.out) hb3
      have o2 := own_keep (own_keep HW.out HB2.out) hb3
      have o3 := own_fr o1 r3 (fun k hk hs => by have := (HE.out.lt k hk).2; rcases hs with e | e <;> omega)
      have o4 := own_fr o2 r3 (fun k hk hs => by have := (HW.out.lt k hk).2; rcases hs with e | e <;> omega)
      have hbf : Below w.heap.size w wc := (btrans HB2.out hb3).trans (Fr.toBelowB r3 (fun g hg => by rcases hg with e | e <;> omega) (by omega))
      have HO3 := hide o3
      have HO4 := hide o4
      have HBf := hide hbf
      clear o1 o2 o3 o4 hbf r1 r2 r3 hb3 HRes
      go_wp2_with fail
      refine bodyPost_ret (v := .tuple #[.agg #[.int .i64 was.size, .slice AE was.exts.length cE, .slice AW was.waits.length cW, .int .i64 was.fuse, .bool was.down], .agg #[.int .u64 0, .int .u64 0, .int .i64 0], .int .i64 why]) (by simp [results, Tryz.results44, go_sem, t0, t1, t2, t3, t4, t5, t6, t7]) rfl ?_
      exact ⟨_, _, _, _, rfl, ⟨AE, cE, AW, cW, rfl, HO3.out, HO4.out⟩, HBf.out, fun e => absurd e HF0.out⟩
  · have hend : (endW was (some a) why).1 = a.dev := by unfold endW; dsimp only; rw [if_neg hf]
    rw [hend]
    obtain ⟨q, fb, hkA, hfA, ⟨E, V, dq, dE, dW, dF⟩, hp⟩ := HA2.out
    obtain ⟨AE1, cE1, rfl⟩ := own_formk dE
    obtain ⟨AW1, cW1, rfl⟩ := own_formk dW
    obtain ⟨y0, y1, y2, y3, y4, y5⟩ := six_cells hkA
    obtain ⟨z0, z1, z2, z3, z4⟩ := five_cells dq
    have lp := hkA.lt
    have lq := dq.lt
    have HKA := hide hkA
    have HDq := hide dq
    have HDE := hide dE
    have HDW := hide dW
    clear hkA hfA dq dE dW dF hp hend
    have key : why = 0 ∨ why = 10 := by
      by_cases h : why = 0
      · exact .inl h
      · exact .inr (by by_cases h2 : why = 10; exact h2; exact absurd ⟨h, h2⟩ hf)
    clear hf
    go_enter Tryz.func44, Tryz.ntmps44
    go_upto_region 1 with (fail)
    rw [← HW2.out]
    go_upto_region 3 with (fail)
    go_cut [21] (fun s21 wx => s21 = .bool false ∧ W2 = wx)
    case first =>
      rcases key with rfl | rfl
      · obtain rfl := he2.zero
        clear he2
        go_wp2_with fail
        go_meet
        exact ⟨rfl, rfl⟩
      · obtain ⟨tg, doing, rfl, hte⟩ := he2.not (by decide)
        have hH := is_trouble tg doing 10 10 W2 hte
        have HIs := hide hH
        clear hH hte he2
        go_wp2_with (go_at_call 84; refine Calls.mono HIs.out ?_; rintro e wz ⟨rfl, ewz⟩; obtain rfl : W2 = wz := ewz.symm)
        go_meet
        exact ⟨rfl, rfl⟩
    case rest =>
     obtain ⟨rfl, rfl⟩ := hcut
     clear key he2
     go_upto_region 5 with (fail)
     go_cut [7] (fun s7 wx => s7 = .pointer (some ⟨W2.heap.size, 0, none⟩) ∧ ∃ rd wr, Hid (Below W2.heap.size W2 wx) ∧ Hid (Bk wx W2.heap.size 29 #[.int .u64 rd, .int .u64 wr, .int .i64 (max a.peak 0)]))
     case first =>
       go_region_held3 (fun w' => w'.cell? ⟨h, 0, none⟩ = some (.pointer (some ⟨p, 0, none⟩)) ∧ w'.cell? ⟨p, 3, none⟩ = some (.int .u64 a.reads) ∧ w'.cell? ⟨p, 4, none⟩ = some (.int .u64 a.writes) ∧ w'.cell? ⟨p, 5, none⟩ = some (.int .i64 a.peak) ∧ w'.cell? ⟨h, 7, none⟩ = some (.int .u64 0) ∧ w'.cell? ⟨h, 8, none⟩ = some (.int .u64 0) ∧ w'.cell? ⟨h, 9, none⟩ = some (.int .i64 0)) (go_keep) (fail)
       all_goals
         go_wp2_with fail
         go_meet
         first
           | exact ⟨rfl, _, _, hide (below_drew (ba1 _ _)), hide (Bk.new W2 _ _)⟩
           | exact ⟨rfl, _, _, hide (below_undrew (ba1 W2.drew _)), hide (Bk.new W2.drew _ _)⟩
     case rest =>
       obtain ⟨rfl, rd, wr, HBc, HKc⟩ := hcut
       have hkA := HKA.out.keep HBc.out
       have hdq := HDq.out.keep HBc.out
       have hkh := HK2.out.keep HBc.out
       have kb := HKB.out.keep HBc.out
       have kc := HKC.out.keep HBc.out
       obtain ⟨u0, u1, u2, u3, u4, u5⟩ := six_cells hkA
       obtain ⟨v0, v1, v2, v3, v4⟩ := five_cells hdq
       obtain ⟨r0, _, _, _, _, _, _, _, _, _⟩ := ten_cells hkh
       have t0 := HKc.out.cell 0
       have t1 := HKc.out.cell 1
       have t2 := HKc.out.cell 2
       have lpc := hkA.lt
       have lqc := hdq.lt
       have lhc := hkh.lt
       have ltc := HKc.out.lt
       have HNuD := hide (HNu.out wc.drew (below_drew HBc.out))
       have HKAc := hide hkA
       have HDqc := hide hdq
       have HKHc := hide hkh
       have HKBc := hide kb
       have HKCc := hide kc
       clear hkA hdq hkh kb kc
       go_upto_region 6 with (fail)
       go_cut [6] (fun s6 wx => s6 = .int .i64 why ∧ Hid (∃ w3, Below wc.heap.size wc w3 ∧ ResAt w3 wx w.heap.size (w.heap.size + 1) (.int .i64 a.dev.size) (.slice AE1 a.dev.exts.length cE1) (.slice AW1 a.dev.waits.length cW1) (.int .i64 a.dev.fuse) (.bool a.dev.down) (.int .u64 rd) (.int .u64 wr) (.int .i64 (max a.peak 0))))
       case first =>
         go_region_law (go_simp; go_at_call 83; refine Calls.mono HNuD.out ?_; rintro e w3 ⟨rfl, hb3⟩; have hb3' := below_undrew hb3; have kA3 := HKAc.out.keep hb3'; have kq3 := HDqc.out.keep hb3'; have kh3 := HKHc.out.keep hb3'; have kt3 := HKc.out.keep hb3'; have kb3 := HKBc.out.keep hb3'; have kc3 := HKCc.out.keep hb3'; obtain ⟨i0, _⟩ := six_cells kA3; obtain ⟨j0, j1, j2, j3, j4⟩ := five_cells kq3; obtain ⟨l0, _⟩ := ten_cells kh3; have n0 := kt3.cell 0; have n1 := kt3.cell 1; have n2 := kt3.cell 2; obtain ⟨b0, b1, b2, b3, b4⟩ := five_cells kb3; have g0 := kb3.free 0; have g1 := kb3.free 1; have g2 := kb3.free 2; have g3 := kb3.free 3; have g4 := kb3.free 4; have d0 := kc3.cell 0; have d1 := kc3.cell 1; have d2 := kc3.cell 2; have e0 := kc3.free 0; have e1 := kc3.free 1; have e2 := kc3.free 2; have lb := kb3.lt; have lc := kc3.lt; have lh := kh3.lt; have lp3 := kA3.lt; have lq3 := kq3.lt; have lt3 := kt3.lt; have HKB3 := hide kb3; have HKC3 := hide kc3; have HB3 := hide hb3'; clear kA3 kq3 kh3 kt3 kb3 kc3 hb3 hb3')
         all_goals
           go_wp2_with fail
           go_meet
           refine ⟨rfl, hide ⟨w3, HB3.out, ?_⟩⟩
           first
             | exact res_one HKB3.out HKC3.out _ _ _ _ _ _ _ _
             | exact res_two HKB3.out HKC3.out _ _ _ _ _ _ _ _
       case rest =>
         obtain ⟨rfl, HRes⟩ := hcut
         obtain ⟨w3, hb3, r1, r2, r3⟩ := HRes.out
         obtain ⟨t0, t1, t2, t3, t4⟩ := five_cells r1
         have t5 := r2.cell 0
         have t6 := r2.cell 1
         have t7 := r2.cell 2
         have hs2 := HB2.out.size
         have hs3 := hb3.size
         have hsb := HBc.out.size
         have hsz := HSz.out
         have o1 := own_keep (own_keep HDE.out HBc.out) hb3
         have o2 := own_keep (own_keep HDW.out HBc.out) hb3
         have n1 : ∀ k, (Value.slice AE1 a.dev.exts.length cE1).ownBlock = some k → ¬ (k = w.heap.size ∨ k = w.heap.size + 1) := fun k hk hs => by
           rcases hs with e | e
           · exact own_ne HDE.out HKB.out (by decide) (by rw [hk, e])
           · exact own_ne HDE.out HKC.out (by decide) (by rw [hk, e])
         have n2 : ∀ k, (Value.slice AW1 a.dev.waits.length cW1).ownBlock = some k → ¬ (k = w.heap.size ∨ k = w.heap.size + 1) := fun k hk hs => by
           rcases hs with e | e
           · exact own_ne HDW.out HKB.out (by decide) (by rw [hk, e])
           · exact own_ne HDW.out HKC.out (by decide) (by rw [hk, e])
         have o3 := own_fr o1 r3 n1
         have o4 := own_fr o2 r3 n2
         have hbf : Below w.heap.size w wc := (btrans HB2.out (btrans HBc.out hb3)).trans (Fr.toBelowB r3 (fun g hg => by rcases hg with e | e <;> omega) (by omega))
         have HO3 := hide o3
         have HO4 := hide o4
         have HBf := hide hbf
         clear o1 o2 o3 o4 hbf r1 r2 r3 hb3 HRes n1 n2
         go_wp2_with fail
         refine bodyPost_ret (v := .tuple #[.agg #[.int .i64 a.dev.size, .slice AE1 a.dev.exts.length cE1, .slice AW1 a.dev.waits.length cW1, .int .i64 a.dev.fuse, .bool a.dev.down], .agg #[.int .u64 rd, .int .u64 wr, .int .i64 (max a.peak 0)], .int .i64 why]) (by simp [results, Tryz.results44, go_sem, t0, t1, t2, t3, t4, t5, t6, t7]) rfl ?_
         exact ⟨_, _, _, _, rfl, ⟨AE1, cE1, AW1, cW1, rfl, HO3.out, HO4.out⟩, HBf.out, fun _ => rfl⟩
end Go.Proofs.YtmopegpkoedgbaaGreatDoor
/- Walk: merge.Merge. -/
namespace Go.Proofs.YtmopegpkoedgbaaGreatDoor
open Go.RowKit Go.Sort

theorem DvO.two {w W : World} {v : Value} {d : Dsk} {b c : Nat} {z0 z1 z2 z3 z4 y0 y1 y2 : Value} (h : DvO w v d) (kb : Bk w b 25 #[z0, z1, z2, z3, z4]) (kc : Bk w c 29 #[y0, y1, y2]) (hf : Fr (fun k => k = b ∨ k = c) w W) : DvO W v d := by
  obtain ⟨AE, cE, AW, cW, rfl, h1, h2⟩ := h
  exact ⟨AE, cE, AW, cW, rfl, own_fr h1 hf (fun g hg hs => hs.elim (fun e => own_ne h1 kb (by decide) (by rw [hg, e])) fun e => own_ne h1 kc (by decide) (by rw [hg, e])), own_fr h2 hf (fun g hg hs => hs.elim (fun e => own_ne h2 kb (by decide) (by rw [hg, e])) fun e => own_ne h2 kc (by decide) (by rw [hg, e]))⟩
theorem endW_frames {was : Dsk} {a : Ar} {z : Int} (h : z = 0) : (endW was (some a) z).2.1.frames = a.peak := by
  subst h
  rfl
/-- What an operation answers: a disk, what it took, an error. -/
def OpA (w : World) (r : Dsk × Cst × Int) (e : Ending) (w' : World) : Prop := ∃ u rd wr fr, e = .returned (.tuple #[u, .agg #[.int .u64 rd, .int .u64 wr, .int .i64 fr], .int .i64 r.2.2]) ∧ DvO w' u r.1 ∧ Below w.heap.size w w' ∧ (r.2.2 = 0 → fr = max r.2.1.frames 0)
/-- An operation's end: both results were stored. -/
theorem op_end {w w3 W : World} {b c : Nat} {AE AW : Option Addr} {cE cW : Nat} {d : Dsk} {rd wr fr z : Int} {r : Dsk × Cst × Int} {z0 z1 z2 z3 z4 y0 y1 y2 : Value} (hr : ResAt w3 W b c (.int .i64 d.size) (.slice AE d.exts.length cE) (.slice AW d.waits.length cW) (.int .i64 d.fuse) (.bool d.down) (.int .u64 rd) (.int .u64 wr) (.int .i64 fr))
    (hd : DvO w3 (.agg #[.int .i64 d.size, .slice AE d.exts.length cE, .slice AW d.waits.length cW, .int .i64 d.fuse, .bool d.down]) d) (kb : Bk w3 b 25 #[z0, z1, z2, z3, z4]) (kc : Bk w3 c 29 #[y0, y1, y2]) (hb : Below w.heap.size w w3) (h1 : w.heap.size ≤ b) (h2 : w.heap.size ≤ c) (hr1 : r.1 = d) (hr2 : r.2.2 = z) (hr3 : z = 0 → fr = max r.2.1.frames 0) :
    OpA w r (.returned (.tuple #[.agg #[.int .i64 d.size, .slice AE d.exts.length cE, .slice AW d.waits.length cW, .int .i64 d.fuse, .bool d.down], .agg #[.int .u64 rd, .int .u64 wr, .int .i64 fr], .int .i64 z])) W := by
  subst hr1
  subst hr2
  exact ⟨_, rd, wr, fr, rfl, hd.two kb kc hr.2.2, hb.trans (hr.2.2.toBelowB (fun k hk => by rcases hk with rfl | rfl <;> assumption) hb.size), hr3⟩
theorem far1 {w : World} {c b i : Nat} {v : Value} (h : w.cell? ⟨c, 0, none⟩ = some v) (hn : c ≠ b) (a : Value) : (w.setCell ⟨b, i, none⟩ a).cell? ⟨c, 0, none⟩ = some v :=
  (World.cell?_setCell_other w ⟨b, i, none⟩ ⟨c, 0, none⟩ a (fun e => by injection e with e1; exact hn e1.symm)).trans h
theorem far5 {w : World} {c b : Nat} {v : Value} (h : w.cell? ⟨c, 0, none⟩ = some v) (hn : c ≠ b) (a0 a1 a2 a3 a4 : Value) : (((((w.setCell ⟨b, 0, none⟩ a0).setCell ⟨b, 1, none⟩ a1).setCell ⟨b, 2, none⟩ a2).setCell ⟨b, 3, none⟩ a3).setCell ⟨b, 4, none⟩ a4).cell? ⟨c, 0, none⟩ = some v := far1 (far1 (far1 (far1 (far1 h hn _) hn _) hn _) hn _) hn _
theorem far3 {w : World} {c b : Nat} {v : Value} (h : w.cell? ⟨c, 0, none⟩ = some v) (hn : c ≠ b) (a0 a1 a2 : Value) : (((w.setCell ⟨b, 0, none⟩ a0).setCell ⟨b, 1, none⟩ a1).setCell ⟨b, 2, none⟩ a2).cell? ⟨c, 0, none⟩ = some v := far1 (far1 (far1 h hn _) hn _) hn _
set_option maxRecDepth 100000 in
set_option maxHeartbeats 8000000 in
theorem merge_any (v : Value) (d : Dsk) (budget : Int) (to_ : ByteArray) (A : Option Addr) (cn : Nat) (names : List ByteArray) (o : Addr) (w : World) (hv : Dv w w.heap.size v d) (hz : SzD d) (hG : LaidE w) (hO : OrdAt w o) (hA : Rd w w.heap.size A (vstr names)) (hnm : ∀ s ∈ names, s.size ≤ 100000000) (hnl : names.length ≤ 1000000) (nt : to_.size ≤ 100000000) (hbu : I64 budget) :
    Calls Tryz.prog 24 #[v, .int .i64 budget, .string to_, .slice A names.length cn] w (OpA w (mergeA d budget to_ names)) := by
  have hbg := fun (W : World) (h : Below w.heap.size w W) => begin_any v d budget W ((hv.below h).more h.size) hz
  have HBg := hide hbg
  obtain ⟨AE, cE, AW, cW, rfl, hE, hW⟩ := hv
  obtain ⟨w0, hw0⟩ : ∃ w0, w0 = (((w.alloc (.cells #[.int .i64 d.size, .slice AE d.exts.length cE, .slice AW d.waits.length cW, .int .i64 d.fuse, .bool d.down] 25)).alloc (.cells #[.string to_] 9)).alloc (.cells #[.int .i64 0, .slice none 0 0, .slice none 0 0, .int .i64 0, .bool false] 25)).alloc (.cells #[.int .u64 0, .int .u64 0, .int .i64 0] 29) := ⟨_, rfl⟩
  have hb0 : Below w.heap.size w w0 := by rw [hw0]; exact btrans (btrans (btrans (ba1 _ _) (ba1 _ _)) (ba1 _ _)) (ba1 _ _)
  have k6 : Bk w0 (w.heap.size + 1) 9 #[.string to_] := by rw [hw0]; exact ((Bk.new1 w _ _ _).alloc _).alloc _
  have kb : Bk w0 (w.heap.size + 1 + 1) 25 #[.int .i64 0, .slice none 0 0, .slice none 0 0, .int .i64 0, .bool false] := by rw [hw0]; exact (Bk.new2 w _ _ _ _).alloc _
  have kc : Bk w0 (w.heap.size + 1 + 1 + 1) 29 #[.int .u64 0, .int .u64 0, .int .i64 0] := by
    have := Bk.new2 (w.alloc (.cells #[.int .i64 d.size, .slice AE d.exts.length cE, .slice AW d.waits.length cW, .int .i64 d.fuse, .bool d.down] 25)) (.cells #[.string to_] 9) (.cells #[.int .i64 0, .slice none 0 0, .slice none 0 0, .int .i64 0, .bool false] 25) 29 #[.int .u64 0, .int .u64 0, .int .i64 0]
    rw [World.size_alloc] at this
    rw [hw0]; exact this
  have hs0 : w0.heap.size = w.heap.size + 4 := by rw [hw0]; simp
  have HK6 := hide k6
  have HKB := hide kb
  have HKC := hide kc
  have HB0 := hide hb0
  have HW0 := hide hw0
  have HG := hide hG
  have HO := hide hO
  have HA := hide hA
  have HNm := hide hnm
  have hfa := fun W => fan_any budget W hbu
  obtain ⟨R, hR⟩ : ∃ R, R = mergeA d budget to_ names := ⟨_, rfl⟩
  rw [← hR]
  unfold mergeA at hR
  have HS0 := hide hs0
  clear hbg hE hW hb0 hw0 hz hG hO hA hnm k6 kb kc hs0
  by_cases h0 : beginW d budget = 0
  · rw [if_neg (fun e => e h0)] at hR
    obtain ⟨hf1, hf24, hf256⟩ := beginW_fan h0
    rw [hf1] at hfa
    dsimp only at hfa
    have HFa := hide hfa
    obtain ⟨kf, hkf⟩ : ∃ kf : Nat, (kf : Int) = budget - 6 := ⟨(budget - 6).toNat, by omega⟩
    rw [← hkf] at HFa hR
    have hkf1 : 18 ≤ kf := by omega
    have hkf2 : kf ≤ 250 := by omega
    have hfl := fun (d : ByteArray) (z : Int) W => fail_any d z W
    have HFl := hide hfl
    clear hfa hf1 hfl hkf
    by_cases hbad : names.length < 1 ∨ (kf : Int) < (names.length : Nat)
    · rw [if_pos hbad] at hR
      have HR := hide hR
      have hnl2 := hnl
      clear hR
      by_cases hb1 : names.length < 1
      · have hb1I : (names.length : Int) < 1 := by omega
        clear hbad hb1
        go_enter Tryz.func24, Tryz.ntmps24
        go_upto_region 4 with (have hx := HBg; clear hx; go_at_call 42; rw [← HW0.out]; refine Calls.mono (HBg.out _ HB0.out) ?_; rintro e w1 ⟨h, ev, rfl, m1, m2, m3, _, m5⟩; rw [h0] at m3; obtain rfl := ErrV.zero m3; obtain ⟨B, p, n1, n2, n3, n4⟩ := m5 h0; have M1 := hide m1; have N1 := hide n1; have N2 := hide n2; have N3 := hide n3; have N4 := hide n4; clear m1 m2 m3 m5 n1 n2 n3 n4)
        obtain ⟨W2, hW2⟩ : ∃ W2, W2 = w1.alloc (.cells #[.pointer (some ⟨h, 0, none⟩)] 69) := ⟨_, rfl⟩
        have hb2 : Below w1.heap.size w1 W2 := by rw [hW2]; exact ba1 _ _
        have k11 : Bk W2 w1.heap.size 69 #[.pointer (some ⟨h, 0, none⟩)] := by rw [hW2]; exact Bk.new _ _ _
        rw [← hW2]
        have HN1 := hide (N1.out.keep hb2)
        have HN2 := hide (N2.out.keep hb2)
        have HK11 := hide k11
        have HKB2 := hide ((HKB.out.keep M1.out).keep hb2)
        have HKC2 := hide ((HKC.out.keep M1.out).keep hb2)
        have HBl2 := hide (btrans (btrans HB0.out M1.out) hb2)
        have hz1 := M1.out.size
        have hz0 := HS0.out
        clear hW2 hb2 k11 N1 N2
        go_upto_region 6 with (go_at_call 19; refine Calls.mono (HFa.out _) ?_; rintro e w9 ⟨rfl, ew⟩; obtain rfl : W2 = w9 := ew.symm)
        have hS2 : W2.drew.cell? ⟨w1.heap.size, 0, none⟩ = some (.pointer (some ⟨h, 0, none⟩)) := HK11.out.cell 0
        have hl2 := HK11.out.lt
        have hne8 : w1.heap.size ≠ w.heap.size + 1 + 1 := by omega
        have hne9 : w1.heap.size ≠ w.heap.size + 1 + 1 + 1 := by omega
        go_region_held3 (fun w' => w'.cell? ⟨w1.heap.size, 0, none⟩ = some (.pointer (some ⟨h, 0, none⟩)))
          (first | with_reducible exact hS2 | with_reducible exact hS3 | with_reducible exact hS4 | with_reducible exact far5 hS4 hne8 _ _ _ _ _ | with_reducible exact far3 hS4 hne9 _ _ _ | with_reducible exact far3 (far5 hS4 hne8 _ _ _ _ _) hne9 _ _ _ | with_reducible exact far5 (far3 hS4 hne9 _ _ _) hne8 _ _ _ _ _)
          ((first
            | (have hx := HE3; clear hx; go_at_call 44; refine Calls.mono (end_any B h p d (overA d budget.toNat) ev3 1 w3 WK3.out AR3.out HE3.out HG3.out) ?_; rintro e w4 ⟨u, rd, wr, fr, rfl, hd, hb, hfr⟩; have HD := hide hd; have HFr := hide hfr; obtain ⟨AE2, cE2, AW2, cW2, rfl, o1, o2⟩ := hd; have kb2 := HKB3.out.keep hb; have kc2 := HKC3.out.keep hb; have hS4 : w4.cell? ⟨w1.heap.size, 0, none⟩ = some (.pointer (some ⟨h, 0, none⟩)) := (HK3.out.keep hb).cell 0; have hl4 := (HK3.out.keep hb).lt; obtain ⟨b0, b1, b2, b3, b4⟩ := five_cells kb2; obtain ⟨f0, f1, f2, f3, f4⟩ := five_free kb2; have d0 := kc2.cell 0; have d1 := kc2.cell 1; have d2 := kc2.cell 2; have e0 := kc2.free 0; have e1 := kc2.free 1; have e2 := kc2.free 2; have lb := kb2.lt; have lc := kc2.lt; have KB2 := hide kb2; have KC2 := hide kc2; have HB4 := hide (HBl3.out.trans (hb.mono HBl3.out.size)); clear kb2 kc2 o1 o2 hb hfr)
            | (go_at_call 56; refine Calls.mono (HFl.out _ _ _) ?_; rintro e w3 ⟨ev3, rfl, he3, hb3⟩; have hb3' : Below W2.heap.size W2 w3 := ⟨hb3.os, hb3.tape, hb3.output, hb3.size, hb3.block⟩; have HE3 := hide (show ErrV w3 ev3 1 from ⟨_, he3⟩); have WK3 := hide (HN1.out.keep hb3'); have AR3 := hide (HN2.out.keep hb3'); have HK3 := hide (HK11.out.keep hb3'); have hS3 : w3.cell? ⟨w1.heap.size, 0, none⟩ = some (.pointer (some ⟨h, 0, none⟩)) := (HK11.out.keep hb3').cell 0; have hl3 := (HK11.out.keep hb3').lt; have HKB3 := hide (HKB2.out.keep hb3'); have HKC3 := hide (HKC2.out.keep hb3'); have HBl3 := hide (HBl2.out.trans (hb3'.mono HBl2.out.size)); have HG3 := hide (HG.out.keep HBl3.out); clear he3 hb3 hb3')))
        all_goals go_wp2_with fail
        all_goals first
          | (refine bodyPost_ret (v := .tuple #[_, _, .int .i64 _]) (res_dc Tryz.results24 (res_one KB2.out KC2.out _ _ _ _ _ _ _ _).1 (res_one KB2.out KC2.out _ _ _ _ _ _ _ _).2.1 rfl rfl rfl) rfl ?_
             exact op_end (res_one KB2.out KC2.out _ _ _ _ _ _ _ _) HD.out KB2.out KC2.out HB4.out (by omega) (by omega) (by rw [HR.out]) (by rw [HR.out, endW_err]) (fun e => absurd e (by decide)))
          | (refine bodyPost_ret (v := .tuple #[_, _, .int .i64 _]) (res_dc Tryz.results24 (res_two KB2.out KC2.out _ _ _ _ _ _ _ _).1 (res_two KB2.out KC2.out _ _ _ _ _ _ _ _).2.1 rfl rfl rfl) rfl ?_
             exact op_end (res_two KB2.out KC2.out _ _ _ _ _ _ _ _) HD.out KB2.out KC2.out HB4.out (by omega) (by omega) (by rw [HR.out]) (by rw [HR.out, endW_err]) (fun e => absurd e (by decide)))
      · have hb1I : ¬ (names.length : Int) < 1 := by omega
        have hb2I : (kf : Int) < (names.length : Int) := by
          rcases hbad with e | e
          · exact absurd e hb1
          · exact e
        clear hbad hb1
        go_enter Tryz.func24, Tryz.ntmps24
        go_upto_region 4 with (have hx := HBg; clear hx; go_at_call 42; rw [← HW0.out]; refine Calls.mono (HBg.out _ HB0.out) ?_; rintro e w1 ⟨h, ev, rfl, m1, m2, m3, _, m5⟩; rw [h0] at m3; obtain rfl := ErrV.zero m3; obtain ⟨B, p, n1, n2, n3, n4⟩ := m5 h0; have M1 := hide m1; have N1 := hide n1; have N2 := hide n2; have N3 := hide n3; have N4 := hide n4; clear m1 m2 m3 m5 n1 n2 n3 n4)
        obtain ⟨W2, hW2⟩ : ∃ W2, W2 = w1.alloc (.cells #[.pointer (some ⟨h, 0, none⟩)] 69) := ⟨_, rfl⟩
        have hb2 : Below w1.heap.size w1 W2 := by rw [hW2]; exact ba1 _ _
        have k11 : Bk W2 w1.heap.size 69 #[.pointer (some ⟨h, 0, none⟩)] := by rw [hW2]; exact Bk.new _ _ _
        rw [← hW2]
        have HN1 := hide (N1.out.keep hb2)
        have HN2 := hide (N2.out.keep hb2)
        have HK11 := hide k11
        have HKB2 := hide ((HKB.out.keep M1.out).keep hb2)
        have HKC2 := hide ((HKC.out.keep M1.out).keep hb2)
        have HBl2 := hide (btrans (btrans HB0.out M1.out) hb2)
        have hz1 := M1.out.size
        have hz0 := HS0.out
        clear hW2 hb2 k11 N1 N2
        go_upto_region 6 with (go_at_call 19; refine Calls.mono (HFa.out _) ?_; rintro e w9 ⟨rfl, ew⟩; obtain rfl : W2 = w9 := ew.symm)
        have hS2 : W2.drew.cell? ⟨w1.heap.size, 0, none⟩ = some (.pointer (some ⟨h, 0, none⟩)) := HK11.out.cell 0
        have hl2 := HK11.out.lt
        have hne8 : w1.heap.size ≠ w.heap.size + 1 + 1 := by omega
        have hne9 : w1.heap.size ≠ w.heap.size + 1 + 1 + 1 := by omega
        go_region_held3 (fun w' => w'.cell? ⟨w1.heap.size, 0, none⟩ = some (.pointer (some ⟨h, 0, none⟩)))
          (first | with_reducible exact hS2 | with_reducible exact hS3 | with_reducible exact hS4 | with_reducible exact far5 hS4 hne8 _ _ _ _ _ | with_reducible exact far3 hS4 hne9 _ _ _ | with_reducible exact far3 (far5 hS4 hne8 _ _ _ _ _) hne9 _ _ _ | with_reducible exact far5 (far3 hS4 hne9 _ _ _) hne8 _ _ _ _ _)
          ((first
            | (have hx := HE3; clear hx; go_at_call 44; refine Calls.mono (end_any B h p d (overA d budget.toNat) ev3 1 w3 WK3.out AR3.out HE3.out HG3.out) ?_; rintro e w4 ⟨u, rd, wr, fr, rfl, hd, hb, hfr⟩; have HD := hide hd; have HFr := hide hfr; obtain ⟨AE2, cE2, AW2, cW2, rfl, o1, o2⟩ := hd; have kb2 := HKB3.out.keep hb; have kc2 := HKC3.out.keep hb; have hS4 : w4.cell? ⟨w1.heap.size, 0, none⟩ = some (.pointer (some ⟨h, 0, none⟩)) := (HK3.out.keep hb).cell 0; have hl4 := (HK3.out.keep hb).lt; obtain ⟨b0, b1, b2, b3, b4⟩ := five_cells kb2; obtain ⟨f0, f1, f2, f3, f4⟩ := five_free kb2; have d0 := kc2.cell 0; have d1 := kc2.cell 1; have d2 := kc2.cell 2; have e0 := kc2.free 0; have e1 := kc2.free 1; have e2 := kc2.free 2; have lb := kb2.lt; have lc := kc2.lt; have KB2 := hide kb2; have KC2 := hide kc2; have HB4 := hide (HBl3.out.trans (hb.mono HBl3.out.size)); clear kb2 kc2 o1 o2 hb hfr)
            | (go_at_call 56; refine Calls.mono (HFl.out _ _ _) ?_; rintro e w3 ⟨ev3, rfl, he3, hb3⟩; have hb3' : Below W2.heap.size W2 w3 := ⟨hb3.os, hb3.tape, hb3.output, hb3.size, hb3.block⟩; have HE3 := hide (show ErrV w3 ev3 1 from ⟨_, he3⟩); have WK3 := hide (HN1.out.keep hb3'); have AR3 := hide (HN2.out.keep hb3'); have HK3 := hide (HK11.out.keep hb3'); have hS3 : w3.cell? ⟨w1.heap.size, 0, none⟩ = some (.pointer (some ⟨h, 0, none⟩)) := (HK11.out.keep hb3').cell 0; have hl3 := (HK11.out.keep hb3').lt; have HKB3 := hide (HKB2.out.keep hb3'); have HKC3 := hide (HKC2.out.keep hb3'); have HBl3 := hide (HBl2.out.trans (hb3'.mono HBl2.out.size)); have HG3 := hide (HG.out.keep HBl3.out); clear he3 hb3 hb3')))
        all_goals go_wp2_with fail
        all_goals first
          | (refine bodyPost_ret (v := .tuple #[_, _, .int .i64 _]) (res_dc Tryz.results24 (res_one KB2.out KC2.out _ _ _ _ _ _ _ _).1 (res_one KB2.out KC2.out _ _ _ _ _ _ _ _).2.1 rfl rfl rfl) rfl ?_
             exact op_end (res_one KB2.out KC2.out _ _ _ _ _ _ _ _) HD.out KB2.out KC2.out HB4.out (by omega) (by omega) (by rw [HR.out]) (by rw [HR.out, endW_err]) (fun e => absurd e (by decide)))
          | (refine bodyPost_ret (v := .tuple #[_, _, .int .i64 _]) (res_dc Tryz.results24 (res_two KB2.out KC2.out _ _ _ _ _ _ _ _).1 (res_two KB2.out KC2.out _ _ _ _ _ _ _ _).2.1 rfl rfl rfl) rfl ?_
             exact op_end (res_two KB2.out KC2.out _ _ _ _ _ _ _ _) HD.out KB2.out KC2.out HB4.out (by omega) (by omega) (by rw [HR.out]) (by rw [HR.out, endW_err]) (fun e => absurd e (by decide)))
    · rw [if_neg hbad] at hR
      obtain ⟨I, hI⟩ : ∃ I, I = intoG (fun wd r a => toA a to_ (wd : Nat) r) names (overA d budget.toNat) := ⟨_, rfl⟩
      rw [intoA_eq, ← hI] at hR
      try dsimp only at hR
      have HI := hide hI
      have HR := hide hR
      have hn1 : 1 ≤ names.length := by omega
      have hb1I : ¬ (names.length : Int) < 1 := by omega
      have hb2I : ¬ (kf : Int) < (names.length : Int) := by omega
      clear hR hI hbad
      go_enter Tryz.func24, Tryz.ntmps24
      go_upto_region 4 with (have hx := HBg; clear hx; go_at_call 42; rw [← HW0.out]; refine Calls.mono (HBg.out _ HB0.out) ?_; rintro e w1 ⟨h, ev, rfl, m1, m2, m3, _, m5⟩; rw [h0] at m3; obtain rfl := ErrV.zero m3; obtain ⟨B, p, n1, n2, n3, n4⟩ := m5 h0; have M1 := hide m1; have N1 := hide n1; have N2 := hide n2; have N3 := hide n3; have N4 := hide n4; clear m1 m2 m3 m5 n1 n2 n3 n4)
      obtain ⟨W2, hW2⟩ : ∃ W2, W2 = w1.alloc (.cells #[.pointer (some ⟨h, 0, none⟩)] 69) := ⟨_, rfl⟩
      have hb2 : Below w1.heap.size w1 W2 := by rw [hW2]; exact ba1 _ _
      have k11 : Bk W2 w1.heap.size 69 #[.pointer (some ⟨h, 0, none⟩)] := by rw [hW2]; exact Bk.new _ _ _
      rw [← hW2]
      have HN1 := hide (N1.out.keep hb2)
      have HB12 := hide hb2
      have HK62 := hide ((HK6.out.keep M1.out).keep hb2)
      have HN2 := hide (N2.out.keep hb2)
      have HK11 := hide k11
      have HKB2 := hide ((HKB.out.keep M1.out).keep hb2)
      have HKC2 := hide ((HKC.out.keep M1.out).keep hb2)
      have HBl2 := hide (btrans (btrans HB0.out M1.out) hb2)
      have hz1 := M1.out.size
      have hz0 := HS0.out
      clear hW2 hb2 k11 N1 N2
      have hlo2 : w0.heap.size ≤ W2.heap.size := Nat.le_trans M1.out.size HB12.out.size
      have HO2 := hide (show OrdAt W2.drew o from (HBl2.out.cell (p := ⟨0, 0, none⟩) (World.block_lt_of_cell? w _ HO.out)).trans HO.out)
      have HA2 := hide (show Rd W2.drew w.heap.size A (vstr names) from (show Rd W2 w.heap.size A (vstr names) from HA.out.below HBl2.out))
      have hgl0 : 0 < w0.heap.size := Nat.lt_of_lt_of_le (World.block_lt_of_cell? w _ HO.out) HB0.out.size
      go_upto_region 7 with (go_at_call 19; refine Calls.mono (HFa.out _) ?_; rintro e w9 ⟨rfl, ew⟩; obtain rfl : W2 = w9 := ew.symm)
      have hS2 : W2.drew.cell? ⟨w1.heap.size, 0, none⟩ = some (.pointer (some ⟨h, 0, none⟩)) := HK11.out.cell 0
      have hl2 := HK11.out.lt
      have hne8 : w1.heap.size ≠ w.heap.size + 1 + 1 := by omega
      have hne9 : w1.heap.size ≠ w.heap.size + 1 + 1 + 1 := by omega
      go_region_held3 (fun w' => w'.cell? ⟨w1.heap.size, 0, none⟩ = some (.pointer (some ⟨h, 0, none⟩)))
        (first | with_reducible exact hS2 | with_reducible exact hS3 | with_reducible exact hS4 | with_reducible exact far5 hS4 hne8 _ _ _ _ _ | with_reducible exact far3 hS4 hne9 _ _ _ | with_reducible exact far3 (far5 hS4 hne8 _ _ _ _ _) hne9 _ _ _ | with_reducible exact far5 (far3 hS4 hne9 _ _ _) hne8 _ _ _ _ _)
        ((first
          | (have hx := HE3; clear hx; go_at_call 44; refine Calls.mono (end_any B h p d I.1 ev3 I.2 w3 WK3.out AR3.out HE3.out HG3.out) ?_; rintro e w4 ⟨u, rd, wr, fr, rfl, hd, hb, hfr⟩; have HD := hide hd; have HFr := hide hfr; obtain ⟨AE2, cE2, AW2, cW2, rfl, o1, o2⟩ := hd; have kb2 := HKB3.out.keep hb; have kc2 := HKC3.out.keep hb; have hS4 : w4.cell? ⟨w1.heap.size, 0, none⟩ = some (.pointer (some ⟨h, 0, none⟩)) := (HK3.out.keep hb).cell 0; have hl4 := (HK3.out.keep hb).lt; obtain ⟨b0, b1, b2, b3, b4⟩ := five_cells kb2; obtain ⟨f0, f1, f2, f3, f4⟩ := five_free kb2; have d0 := kc2.cell 0; have d1 := kc2.cell 1; have d2 := kc2.cell 2; have e0 := kc2.free 0; have e1 := kc2.free 1; have e2 := kc2.free 2; have lb := kb2.lt; have lc := kc2.lt; have KB2 := hide kb2; have KC2 := hide kc2; have HB4 := hide (HBl3.out.trans (hb.mono HBl3.out.size)); clear kb2 kc2 o1 o2 hb hfr)
          | (go_at_call 57; refine Calls.mono (into_any (fun wd r a => toA a to_ (wd : Nat) r) 58 #[.pointer (some ⟨w1.heap.size, 0, none⟩), .pointer (some ⟨w.heap.size + 1, 0, none⟩)] (enters_of Tryz.func58 (by kernel_rfl) rfl) B h p w0.heap.size w.heap.size cn o A names d (X := zeroX) (overA d budget.toNat) W2.drew N3.out hlo2 HB0.out.size hgl0 HO2.out HA2.out HNm.out hn1 hnl HN1.out HN2.out N4.out (fun X => X = zeroX) rfl (fun W => Bk W w1.heap.size 69 #[.pointer (some ⟨h, 0, none⟩)] ∧ Bk W (w.heap.size + 1) 9 #[.string to_]) ⟨HK11.out, HK62.out⟩ (fun W W' hk hf => ⟨hk.1.afr hf (by unfold ATy; decide), hk.2.afr hf (by unfold ATy; decide)⟩) (fun wd room a2 W hk hw ha hv hl => mergeTo_any B h p w1.heap.size (w.heap.size + 1) w0.heap.size to_ d wd room a2 W N3.out hl hk.1 hk.2 hw ha hv nt)) ?_; rintro e w3 ⟨ev3, X3, hX3, rfl, z1, _, z3, z4, z5, z6⟩; subst hX3; rw [← HI.out] at z1 z6; have HE3 := hide z6; have WK3 := hide z3; have AR3 := hide z1; have k3 := (show Bk W2.drew _ _ _ from HK11.out).afr z5 (by unfold ITy RTy ATy nty ktyT; decide); have HK3 := hide k3; have hS3 : w3.cell? ⟨w1.heap.size, 0, none⟩ = some (.pointer (some ⟨h, 0, none⟩)) := k3.cell 0; have hl3 := k3.lt; have HKB3 := hide ((show Bk W2.drew _ _ _ from HKB2.out).below z4 (by omega)); have HKC3 := hide ((show Bk W2.drew _ _ _ from HKC2.out).below z4 (by omega)); have HBl3 := hide ((below_drewN HBl2.out 1).trans (z4.mono HB0.out.size)); have HG3 := hide (HG.out.keep HBl3.out); clear z1 z3 z4 z5 z6 k3)))
      all_goals go_wp2_with fail
      all_goals first
        | (refine bodyPost_ret (v := .tuple #[_, _, .int .i64 _]) (res_dc Tryz.results24 (res_one KB2.out KC2.out _ _ _ _ _ _ _ _).1 (res_one KB2.out KC2.out _ _ _ _ _ _ _ _).2.1 rfl rfl rfl) rfl ?_
           exact op_end (res_one KB2.out KC2.out _ _ _ _ _ _ _ _) HD.out KB2.out KC2.out HB4.out (by omega) (by omega) (by rw [HR.out]) (by rw [HR.out, endW_err]) (fun e => by rw [HFr.out e, HR.out, endW_frames e]))
        | (refine bodyPost_ret (v := .tuple #[_, _, .int .i64 _]) (res_dc Tryz.results24 (res_two KB2.out KC2.out _ _ _ _ _ _ _ _).1 (res_two KB2.out KC2.out _ _ _ _ _ _ _ _).2.1 rfl rfl rfl) rfl ?_
           exact op_end (res_two KB2.out KC2.out _ _ _ _ _ _ _ _) HD.out KB2.out KC2.out HB4.out (by omega) (by omega) (by rw [HR.out]) (by rw [HR.out, endW_err]) (fun e => by rw [HFr.out e, HR.out, endW_frames e]))
  · rw [if_pos h0] at hR
    have HR := hide hR
    clear hR hfa
    go_enter Tryz.func24, Tryz.ntmps24
    go_upto_region 3 with (go_at_call 42; rw [← HW0.out]; refine Calls.mono (HBg.out _ HB0.out) ?_; rintro e w1 ⟨h, ev, rfl, m1, m2, m3, m4, _⟩; obtain ⟨tg, tdo, rfl, tk⟩ := ErrV.not m3 h0; have M1 := hide m1; have M3 := hide m3; have M4 := hide (m4 h0); clear m1 m2 m3 m4 tk)
    obtain ⟨W2, hW2⟩ : ∃ W2, W2 = w1.alloc (.cells #[.pointer (some ⟨h, 0, none⟩)] 69) := ⟨_, rfl⟩
    have hb2 : Below w1.heap.size w1 W2 := by rw [hW2]; exact ba1 _ _
    have k11 : Bk W2 w1.heap.size 69 #[.pointer (some ⟨h, 0, none⟩)] := by rw [hW2]; exact Bk.new _ _ _
    rw [← hW2]
    have c11 := k11.cell 0
    have l11 := k11.lt
    have hen := endNo_any h (openD d).1 (.iface 148 (.pointer (some ⟨tg, 0, none⟩))) (beginW d budget) W2 (M4.out.keep hb2) (M3.out.keep hb2) (HG.out.keep (btrans (btrans HB0.out M1.out) hb2))
    have HEn := hide hen
    have HB2 := hide hb2
    have HBl2 := hide (btrans (btrans HB0.out M1.out) hb2)
    clear hen hW2 hb2 k11
    go_wp2_with (go_at_call 44; refine Calls.mono HEn.out ?_; rintro e w3 ⟨u, rfl, hd, hb⟩; have HD := hide hd; obtain ⟨AE2, cE2, AW2, cW2, rfl, o1, o2⟩ := hd; have kb2 := ((HKB.out.keep M1.out).keep HB2.out).keep hb; have kc2 := ((HKC.out.keep M1.out).keep HB2.out).keep hb; obtain ⟨b0, b1, b2, b3, b4⟩ := five_cells kb2; obtain ⟨f0, f1, f2, f3, f4⟩ := five_free kb2; have d0 := kc2.cell 0; have d1 := kc2.cell 1; have d2 := kc2.cell 2; have e0 := kc2.free 0; have e1 := kc2.free 1; have e2 := kc2.free 2; have lb := kb2.lt; have lc := kc2.lt; have KB2 := hide kb2; have KC2 := hide kc2; have HB3 := hide (btrans HBl2.out hb); clear kb2 kc2 o1 o2 hb)
    refine bodyPost_ret (v := .tuple #[_, _, .int .i64 _]) (res_dc Tryz.results24 (res_one KB2.out KC2.out _ _ _ _ _ _ _ _).1 (res_one KB2.out KC2.out _ _ _ _ _ _ _ _).2.1 rfl rfl rfl) rfl ?_
    exact op_end (res_one KB2.out KC2.out _ _ _ _ _ _ _ _) HD.out KB2.out KC2.out HB3.out (by omega) (by omega) (by rw [HR.out]; rfl) (by rw [HR.out]; rfl) (fun e => absurd e h0)
end Go.Proofs.YtmopegpkoedgbaaGreatDoor
/- Walk: merge.ahead. -/
namespace Go.Proofs.YtmopegpkoedgbaaGreatDoor
open Go.RowKit Go.Sort

/-- The first place where a record is less than the one ahead of it, in a file. -/
def aheadN (a : Ar) (name : ByteArray) : Ar × Nat × Bool × Int :=
  if (fromW a name).2.2 ≠ 0 then ((fromW a name).1, 0, false, (fromW a name).2.2) else aheadA ((fromW a name).2.1.count + 2) 0 (fromW a name).1 ⟨(fromW a name).2.1, []⟩
theorem eql_nil (W : World) : (binOp .eql 63 (.slice none 0 0) (.slice none 0 0)).run Tryz.prog W = .ok (.bool true) W := by kernel_rfl
theorem eql_some (a : Addr) (n c : Nat) (W : World) : (binOp .eql 63 (.slice (some a) n c) (.slice none 0 0)).run Tryz.prog W = .ok (.bool false) W := by kernel_rfl
set_option maxRecDepth 100000 in
set_option maxHeartbeats 8000000 in
theorem ahead_any (B : Fld) (h p lo : Nat) (o : Addr) (name : ByteArray) (was : Dsk) {X : WkX} (a : Ar) (w : World) (hlo : ∀ k, B.ok k → lo ≤ k) (hl : lo ≤ w.heap.size) (hgl : 0 < lo) (hO : OrdAt w o) (hn : name.size ≤ 100000000) (hw : WkAt w B h p was X) (ha : ArAt w B p a) (hv : InvA a) :
    Calls Tryz.prog 60 #[.pointer (some ⟨h, 0, none⟩), .string name] w fun e w' => ∃ ev, e = .returned (.tuple #[.int .u64 (aheadN a name).2.1, .bool (aheadN a name).2.2.1, ev]) ∧ ArAt w' B p (aheadN a name).1 ∧ WkAt w' B h p was X ∧ Below lo w w' ∧ ErrV w' ev (aheadN a name).2.2.2 := by
  obtain ⟨R, hR⟩ : ∃ R, R = aheadN a name := ⟨_, rfl⟩
  rw [← hR]
  unfold aheadN at hR
  have hfr := wfrom_any B h p name was a w hw ha hv hn
  have hiv := fromW_inv hv name
  have hok := fromW_ok (a := a) (name := name)
  have hsr := fun e => fromW_src (a := a) (name := name) e
  obtain ⟨F, hF⟩ : ∃ F, F = fromW a name := ⟨_, rfl⟩
  rw [← hF] at hR hfr hiv hok hsr
  obtain ⟨a3, r, z⟩ := F
  dsimp only at hR hfr hiv hok hsr
  have HFr := hide hfr
  have HO := hide hO
  have HW := hide hw
  clear hfr hF hO hw ha hv
  by_cases hz : z = 0
  · subst hz
    rw [if_neg (show ¬ ((0 : Int) ≠ 0) from fun e => e rfl)] at hR
    obtain ⟨hw1, hw8, hct, _, _⟩ := hok rfl
    obtain ⟨hs1, hs2⟩ := hsr rfl
    obtain ⟨y, hy⟩ : ∃ y : Src, y = ⟨r, []⟩ := ⟨_, rfl⟩
    rw [← hy] at hR hs1 hs2
    have HR := hide hR
    have HS1 := hide hs1
    have HS2 := hide hs2
    have HY := hide hy
    have HV := hide hiv
    clear hR hsr hs1 hs2 hy hok
    go_enter Tryz.func60, Tryz.ntmps60
    go_upto_region 7 with (go_at_call 78; refine Calls.mono HFr.out ?_; rintro e w1 ⟨pa, ev, rfl, m1, m2, m3, m4⟩; obtain ⟨g, hg, rfl, hrd⟩ := m4 (by first | rfl | trivial); obtain rfl := ErrV.zero m3; have M1 := hide m1; have M2 := hide m2; have HRd := hide hrd; clear m1 m2 m3 m4 hrd)
    obtain ⟨W2, hW2⟩ : ∃ W2, W2 = w1.alloc (.cells #[.pointer (some ⟨g, 0, none⟩), .slice none 0 0] 155) := ⟨_, rfl⟩
    have hb2 : Below w1.heap.size w1 W2 := by rw [hW2]; exact ba1 _ _
    have ks : Bk W2 w1.heap.size 155 #[.pointer (some ⟨g, 0, none⟩), .slice none 0 0] := by rw [hW2]; exact Bk.new _ _ _
    rw [← hW2]
    have hl1 : lo ≤ w1.heap.size := Nat.le_trans hl M2.out.size
    have hbl1 : Below lo w w1 := Fr.toBelowB M2.out (fun k hk => hlo k hk.1) hl
    have hsx : SrcAt W2 p w1.heap.size g y := by rw [HY.out]; exact ⟨_, ks, HRd.out.keep hb2, .inl ⟨rfl, rfl⟩⟩
    have HSx := hide hsx
    have HA2 := hide (M1.out.keep hb2)
    have HW2 := hide ((HW.out.afr M2.out).keep hb2)
    have HB2 := hide (hbl1.trans (hb2.mono hl1))
    have HO2 := hide (HO.out.low (hbl1.trans (hb2.mono hl1)) hgl)
    have hlg : lo ≤ g := Nat.le_trans hl hg
    have hrem : remS y < r.count + 2 := by rw [HS2.out]; omega
    have HRem := hide hrem
    obtain ⟨sb, hsb⟩ : ∃ sb, sb = w1.heap.size := ⟨_, rfl⟩
    rw [← hsb] at HSx hl1
    simp only [← hsb]
    clear hb2 ks hbl1 hsx hW2 hsb hrem HW HO HFr
    go_loopg [10] (r.count + 2) (fun f s10 wr => ∃ (i : Nat) (a4 : Ar) (s4 : Src), s10 = .int .u64 i ∧ i + f ≤ 100000 ∧ Hid (R = aheadA f i a4 s4) ∧ Hid (ArAt wr B p a4) ∧ Hid (InvA a4) ∧ Hid (SrcAt wr p sb g s4) ∧ Hid (SrcOK a4 s4) ∧ Hid (OrdAt wr o) ∧ Hid (WkAt wr B h p was X) ∧ Hid (Below lo w wr) ∧ Hid (remS s4 < f))
    case atStart => exact ⟨0, a3, y, rfl, by omega, HR, HA2, HV, HSx, HS1, HO2, HW2, HB2, HRem⟩
    case round =>
      clear HR HA2 HV HSx HS1 HO2 HW2 HB2 HRem
      obtain ⟨i, a4, s4, rfl, hif, HR, HA, HV, HS, HK, HOr, HW, HB, HRm⟩ := hrel
      obtain ⟨f, rfl⟩ : ∃ f, gk = f + 1 := ⟨gk - 1, by have := HRm.out; omega⟩
      have hR := HR.out
      rw [aheadA] at hR
      try dsimp only at hR
      have en := eql_nil
      have es := eql_some
      have hlw : lo ≤ wr.heap.size := by have := HB.out.size; omega
      have hnx := snext_any B p sb g lo o a4 s4 wr HOr.out hlo hlw hgl hl1 hlg HA.out HV.out HS.out HK.out
      have hnr := nextS_rem HV.out HK.out
      obtain ⟨q1, q2, q3, _, _, q6⟩ := nextS_sp HV.out HK.out
      obtain ⟨N, hN⟩ : ∃ N, N = nextS a4 s4 := ⟨_, rfl⟩
      rw [← hN] at hR hnx hnr q1 q2 q3 q6
      obtain ⟨a5, s5, key, z⟩ := N
      dsimp only at hR hnx hnr q1 q2 q3 q6
      have HNx := hide hnx
      have HNr := hide hnr
      have Q1 := hide q1
      have Q3 := hide q3
      have HSty := hide HS.out.sty
      clear hnx hnr q1 q2 q3 hN HR HA
      by_cases h12 : z = 12
      · subst h12
        rw [if_pos rfl] at hR
        have HR := hide hR
        clear hR q6
        go_wp2_with (first
          | (have hx := HIs; clear hx; go_at_call 84; refine Calls.mono HIs.out ?_; rintro e w5 ⟨rfl, ew⟩; obtain rfl : w3 = w5 := ew.symm)
          | (go_at_call 100; refine Calls.mono HNx.out ?_; rintro e w3 ⟨xv, ev, rfl, n1, n2, n3, n4, n5⟩; have N1 := hide n1; have N2 := hide n2; have N3 := hide n3; have N4 := hide n4; have hbl3 := n3.low (fun k hk => by rcases hk with e | e <;> omega) hlo hlw; have HB3 := hide (HB.out.trans hbl3); have HW3 := hide (HW.out.xfr n3 HSty.out (by unfold nty; decide) (by unfold nty; decide) (by unfold nty; decide)); have ho3 : w3.cell? ⟨0, 0, none⟩ = some (.iface 324 (.pointer (some o))) := HOr.out.low hbl3 hgl; have hgs3 : 0 < w3.heap.size := World.block_lt_of_cell? w3 _ ho3; have his := is_order w3 o ev _ n5; have HIs := hide his; have HO3 := hide ho3;  clear n1 n2 n3 n4 hbl3 his))
        refine bodyPost_ret (v := .tuple #[.int .u64 (i : Nat), .bool false, .nilIface]) (by simp [results, Tryz.results60, go_sem]) rfl ?_
        rw [HR.out]
        exact ⟨_, rfl, N1.out, HW3.out, HB3.out, ⟨⟨#[]⟩, .inl ⟨rfl, rfl⟩⟩⟩
      · rw [if_neg h12] at hR
        have h12d : decide (z = 12) = false := decide_eq_false h12
        by_cases h0 : z = 0
        · subst h0
          rw [if_neg (show ¬ ((0 : Int) ≠ 0) from fun e => e rfl)] at hR
          by_cases hke : key = []
          · rw [if_pos hke] at hR
            have HR := hide hR
            clear hR q6
            subst hke
            go_upto_region 11 with (first
              | (have hx := HIs; clear hx; go_at_call 84; refine Calls.mono HIs.out ?_; rintro e w5 ⟨rfl, ew⟩; obtain rfl : w3 = w5 := ew.symm)
              | (go_at_call 100; refine Calls.mono HNx.out ?_; rintro e w3 ⟨xv, ev, rfl, n1, n2, n3, n4, n5⟩; have N1 := hide n1; have N2 := hide n2; have N3 := hide n3; have N4 := hide n4; have hbl3 := n3.low (fun k hk => by rcases hk with e | e <;> omega) hlo hlw; have HB3 := hide (HB.out.trans hbl3); have HW3 := hide (HW.out.xfr n3 HSty.out (by unfold nty; decide) (by unfold nty; decide) (by unfold nty; decide)); have ho3 : w3.cell? ⟨0, 0, none⟩ = some (.iface 324 (.pointer (some o))) := HOr.out.low hbl3 hgl; have hgs3 : 0 < w3.heap.size := World.block_lt_of_cell? w3 _ ho3; have his := is_order w3 o ev _ n5; have HIs := hide his; have HO3 := hide ho3; obtain rfl := n5.zero; have hxe : xv = .slice none 0 0 := (n4.elim (fun e => e.2) fun e => absurd rfl e.1); subst hxe; clear n1 n2 n3 n4 hbl3 his))
            go_quiet (fail)
            go_wp2_with fail
            refine bodyPost_ret (v := .tuple #[.int .u64 (i : Nat), .bool true, .nilIface]) (by simp [results, Tryz.results60, go_sem]) rfl ?_
            rw [HR.out]
            exact ⟨_, rfl, (show ArAt _ B p a5 from N1.out), HW3.out.keep (below_drewN (Below.refl _ _) _), below_drewN HB3.out _, ⟨⟨#[]⟩, .inl ⟨rfl, rfl⟩⟩⟩
          · rw [if_neg hke] at hR
            have HR := hide hR
            have hkl : 1 ≤ key.length := by rcases key with _ | ⟨_, _⟩ <;> simp at hke ⊢
            clear hR
            go_wp2_with (first
              | (have hx := HIs; clear hx; go_at_call 84; refine Calls.mono HIs.out ?_; rintro e w5 ⟨rfl, ew⟩; obtain rfl : w3 = w5 := ew.symm)
              | (go_at_call 100; refine Calls.mono HNx.out ?_; rintro e w3 ⟨xv, ev, rfl, n1, n2, n3, n4, n5⟩; have N1 := hide n1; have N2 := hide n2; have N3 := hide n3; have N4 := hide n4; have hbl3 := n3.low (fun k hk => by rcases hk with e | e <;> omega) hlo hlw; have HB3 := hide (HB.out.trans hbl3); have HW3 := hide (HW.out.xfr n3 HSty.out (by unfold nty; decide) (by unfold nty; decide) (by unfold nty; decide)); have ho3 : w3.cell? ⟨0, 0, none⟩ = some (.iface 324 (.pointer (some o))) := HOr.out.low hbl3 hgl; have hgs3 : 0 < w3.heap.size := World.block_lt_of_cell? w3 _ ho3; have his := is_order w3 o ev _ n5; have HIs := hide his; have HO3 := hide ho3; obtain rfl := n5.zero; obtain ⟨gx, cx, rfl⟩ : ∃ gx cx, xv = .slice (some ⟨gx, 0, none⟩) key.length cx := (n4.elim (fun e => absurd e.1 hke) fun ⟨_, gx, cx, e, _⟩ => ⟨gx, cx, e⟩); clear n1 n2 n3 n4 hbl3 his))
            go_roundg f
            case rel =>
              refine ⟨i + 1, a5, s5, v_int (by omega), by omega, HR, N1, Q1, N2, Q3, HO3, HW3, HB3, hide ?_⟩
              rcases HNr.out with ⟨e, _⟩ | ⟨_, e⟩
              · exact absurd e hke
              · have := HRm.out
                omega
            case measure => omega
        · rw [if_pos h0] at hR
          have HR := hide hR
          clear hR q6
          go_upto_region 11 with (first
            | (have hx := HIs; clear hx; go_at_call 84; refine Calls.mono HIs.out ?_; rintro e w5 ⟨rfl, ew⟩; obtain rfl : w3 = w5 := ew.symm)
            | (go_at_call 100; refine Calls.mono HNx.out ?_; rintro e w3 ⟨xv, ev, rfl, n1, n2, n3, n4, n5⟩; have N1 := hide n1; have N2 := hide n2; have N3 := hide n3; have N4 := hide n4; have hbl3 := n3.low (fun k hk => by rcases hk with e | e <;> omega) hlo hlw; have HB3 := hide (HB.out.trans hbl3); have HW3 := hide (HW.out.xfr n3 HSty.out (by unfold nty; decide) (by unfold nty; decide) (by unfold nty; decide)); have ho3 : w3.cell? ⟨0, 0, none⟩ = some (.iface 324 (.pointer (some o))) := HOr.out.low hbl3 hgl; have hgs3 : 0 < w3.heap.size := World.block_lt_of_cell? w3 _ ho3; have his := is_order w3 o ev _ n5; have HIs := hide his; have HO3 := hide ho3; have hn5 := n5; obtain ⟨ty, vv, rfl⟩ := n5.not h0; have N5 := hide hn5; clear hn5; clear n1 n2 n3 n4 hbl3 his))
          go_quiet (fail)
          go_wp2_with fail
          refine bodyPost_ret (v := .tuple #[.int .u64 (i : Nat), .bool false, .iface ty vv]) (by simp [results, Tryz.results60, go_sem]) rfl ?_
          rw [HR.out]
          exact ⟨_, rfl, (show ArAt _ B p a5 from N1.out), HW3.out.keep (below_drewN (Below.refl _ _) _), below_drewN HB3.out _, (N5.out.elim (fun e => absurd e.1 h12) fun e => e.2).keep (below_drewN (Below.refl _ _) _)⟩
  · rw [if_pos hz] at hR
    have hzb : (z == 0) = false := by simpa using hz
    have HR := hide hR
    clear hR hok hsr hiv
    go_enter Tryz.func60, Tryz.ntmps60
    go_wp2_with (go_at_call 78; refine Calls.mono HFr.out ?_; rintro e w1 ⟨pa, ev, rfl, m1, m2, m3, _⟩; obtain ⟨tg, tdo, rfl, tk⟩ := ErrV.not m3 hz; have M1 := hide m1; have M2 := hide m2; have M3 := hide m3; clear m1 m2 m3 tk)
    refine bodyPost_ret (v := .tuple #[.int .u64 0, .bool false, .iface 148 (.pointer (some ⟨tg, 0, none⟩))]) (by simp [results, Tryz.results60, go_sem]) rfl ?_
    rw [HR.out]
    exact ⟨_, rfl, M1.out, HW.out.afr M2.out, Fr.toBelowB M2.out (fun k hk => hlo k hk.1) hl, M3.out⟩
end Go.Proofs.YtmopegpkoedgbaaGreatDoor
/- Walk: merge.Sorted. -/
namespace Go.Proofs.YtmopegpkoedgbaaGreatDoor
open Go.RowKit Go.Sort

theorem sortedA_eq (d : Dsk) (budget : Int) (name : ByteArray) (h : beginW d budget = 0) : sortedA d budget name = if (aheadN (overA d budget.toNat) name).2.2.2 ≠ 0 then (0, false, (endW d (some (aheadN (overA d budget.toNat) name).1) (aheadN (overA d budget.toNat) name).2.2.2).2.1, (aheadN (overA d budget.toNat) name).2.2.2) else ((aheadN (overA d budget.toNat) name).2.1, (aheadN (overA d budget.toNat) name).2.2.1, (endW d (some (aheadN (overA d budget.toNat) name).1) 0).2.1, 0) := by
  unfold sortedA aheadN
  rw [if_neg (fun e => e h)]
  dsimp only
  by_cases hz : (fromW (overA d budget.toNat) name).2.2 = 0
  · simp only [hz, ne_eq, not_true_eq_false, if_false]
    rw [endW_err]
    by_cases hy : (aheadA ((fromW (overA d budget.toNat) name).2.1.count + 2) 0 (fromW (overA d budget.toNat) name).1 ⟨(fromW (overA d budget.toNat) name).2.1, []⟩).2.2.2 = 0
    · rw [if_neg (fun e => e hy), if_neg (fun e => e hy), hy]
    · rw [if_pos hy, if_pos hy]
  · simp only [hz, ne_eq, not_false_eq_true, if_true]
set_option maxRecDepth 100000 in
theorem res_s {fn : Func} {p q r u : Tmp} {W : World} {c : Nat} {d0 d1 d2 x y z : Value} {tmps : Array Value} (hf : fn.results = #[.tmp p, .tmp q, .cell r 29, .tmp u]) (k : Bk W c 29 #[d0, d1, d2]) (h1 : tmps.getD p undef = x) (h2 : tmps.getD q undef = y) (h3 : tmps.getD r undef = .pointer (some ⟨c, 0, none⟩)) (h4 : tmps.getD u undef = z) :
    (results fn tmps).run Tryz.prog W = .ok (.tuple #[x, y, .agg #[d0, d1, d2], z]) W := by
  have y0 : W.cell? ⟨c, 0, none⟩ = some d0 := k.cell 0
  have y1 : W.cell? ⟨c, 1, none⟩ = some d1 := k.cell 1
  have y2 : W.cell? ⟨c, 2, none⟩ = some d2 := k.cell 2
  rw [Array.getD_eq_getD_getElem?] at h1 h2 h3 h4
  simp [results, hf, go_sem, h1, h2, h3, h4, asAddr, y0, y1, y2]
set_option maxRecDepth 100000 in
set_option maxHeartbeats 8000000 in
theorem sorted_any (v : Value) (d : Dsk) (budget : Int) (name : ByteArray) (o : Addr) (w : World) (hv : Dv w w.heap.size v d) (hz : SzD d) (hG : LaidE w) (hO : OrdAt w o) (hn : name.size ≤ 100000000) :
    Calls Tryz.prog 25 #[v, .int .i64 budget, .string name] w fun e w' => ∃ rd wr fr, e = .returned (.tuple #[.int .u64 (sortedA d budget name).1, .bool (sortedA d budget name).2.1, .agg #[.int .u64 rd, .int .u64 wr, .int .i64 fr], .int .i64 (sortedA d budget name).2.2.2]) ∧ Below w.heap.size w w' := by
  have hbg := fun (W : World) (h : Below w.heap.size w W) => begin_any v d budget W ((hv.below h).more h.size) hz
  have HBg := hide hbg
  obtain ⟨AE, cE, AW, cW, rfl, hE, hW⟩ := hv
  obtain ⟨w0, hw0⟩ : ∃ w0, w0 = (w.alloc (.cells #[.int .i64 d.size, .slice AE d.exts.length cE, .slice AW d.waits.length cW, .int .i64 d.fuse, .bool d.down] 25)).alloc (.cells #[.int .u64 0, .int .u64 0, .int .i64 0] 29) := ⟨_, rfl⟩
  have hb0 : Below w.heap.size w w0 := by rw [hw0]; exact btrans (ba1 _ _) (ba1 _ _)
  have kc : Bk w0 (w.heap.size + 1) 29 #[.int .u64 0, .int .u64 0, .int .i64 0] := by rw [hw0]; exact Bk.new1 w _ _ _
  have hs0 : w0.heap.size = w.heap.size + 2 := by rw [hw0]; simp
  have HKC := hide kc
  have HB0 := hide hb0
  have HW0 := hide hw0
  have HG := hide hG
  have HO := hide hO
  have hgl : 0 < w0.heap.size := Nat.lt_of_lt_of_le (World.block_lt_of_cell? w _ hO) hb0.size
  have HS0 := hide hs0
  clear hbg hE hW hb0 hw0 hz hG hO kc hs0
  by_cases h0 : beginW d budget = 0
  · have hsa := sortedA_eq d budget name h0
    obtain ⟨R, hR⟩ : ∃ R, R = sortedA d budget name := ⟨_, rfl⟩
    rw [← hR] at hsa ⊢
    obtain ⟨N, hN⟩ : ∃ N, N = aheadN (overA d budget.toNat) name := ⟨_, rfl⟩
    rw [← hN] at hsa
    have HN := hide hN
    obtain ⟨ar, ni, isb, z⟩ := N
    dsimp only at hsa
    have HSa := hide hsa
    clear hsa hR hN
    go_enter Tryz.func25, Tryz.ntmps25
    go_upto_region 5 with (first
      | (have hx := N1; clear hx; go_at_call 60; refine Calls.mono (ahead_any B h p w0.heap.size o name d (overA d budget.toNat) w1 N3.out M1.out.size hgl HO1.out hn N1.out N2.out N4.out) ?_; rintro e w2 ⟨ev2, rfl, z1, z2, z3, z4⟩; rw [← HN.out] at z1 z4; rw [← HN.out]; have Z1 := hide z1; have Z2 := hide z2; have Z3 := hide (M1.out.trans z3); have Z4 := hide z4; clear z1 z2 z3 z4)
      | (go_at_call 42; rw [← HW0.out]; refine Calls.mono (HBg.out _ HB0.out) ?_; rintro e w1 ⟨h, ev, rfl, m1, m2, m3, _, m5⟩; rw [h0] at m3; obtain rfl := ErrV.zero m3; obtain ⟨B, p, n1, n2, n3, n4⟩ := m5 h0; have M1 := hide m1; have N1 := hide n1; have N2 := hide n2; have N3 := hide n3; have N4 := hide n4; have HO1 := hide (show OrdAt w1 o from ((btrans HB0.out m1).cell (p := ⟨0, 0, none⟩) (World.block_lt_of_cell? w _ HO.out)).trans HO.out); clear m1 m2 m3 m5 n1 n2 n3 n4))
    have HG2 := hide (HG.out.keep (HB0.out.trans (Z3.out.mono HB0.out.size)))
    have HKC2 := hide (HKC.out.below Z3.out (by have := HS0.out; omega))
    have HBl2 := hide (HB0.out.trans (Z3.out.mono HB0.out.size))
    by_cases hz : z = 0
    · subst hz
      have hsa := HSa.out
      rw [if_neg (show ¬ ((0 : Int) ≠ 0) from fun e => e rfl)] at hsa
      have HSb := hide hsa
      clear hsa
      go_upto_region 8 with (go_at_call 44; refine Calls.mono (end_any B h p d ar ev2 0 w2 Z2.out Z1.out Z4.out HG2.out) ?_; rintro e w3 ⟨u, rd, wr, fr, rfl, hd, hb, hfr⟩; clear hfr; obtain ⟨AE2, cE2, AW2, cW2, rfl, o1, o2⟩ := hd; clear o1 o2; have kc2 := HKC2.out.keep hb; have d0 := kc2.cell 0; have d1 := kc2.cell 1; have d2 := kc2.cell 2; have e0 := kc2.free 0; have e1 := kc2.free 1; have e2 := kc2.free 2; have lc := kc2.lt; have KC2 := hide kc2; have HB4 := hide (HBl2.out.trans (hb.mono HBl2.out.size)); clear kc2 hb)
      obtain ⟨W4, hW4⟩ : ∃ W4, W4 = (w3.alloc (.cells #[.int .i64 (endW d (some ar) 0).1.size, .slice AE2 (endW d (some ar) 0).1.exts.length cE2, .slice AW2 (endW d (some ar) 0).1.waits.length cW2, .int .i64 (endW d (some ar) 0).1.fuse, .bool (endW d (some ar) 0).1.down] 25)).alloc (.cells #[.int .u64 rd, .int .u64 wr, .int .i64 fr] 29) := ⟨_, rfl⟩
      rw [← hW4]
      have hb4 : Below w3.heap.size w3 W4 := by rw [hW4]; exact ba2 _ _ _
      have k4 : Bk W4 (w3.heap.size + 1) 29 #[.int .u64 rd, .int .u64 wr, .int .i64 fr] := by rw [hW4]; exact Bk.new1 _ _ _ _
      have kc4 := KC2.out.keep hb4
      have g0 := k4.cell 0
      have g1 := k4.cell 1
      have g2 := k4.cell 2
      have gl := k4.lt
      have x0 := kc4.cell 0
      have x1 := kc4.cell 1
      have x2 := kc4.cell 2
      have y0 := kc4.free 0
      have y1 := kc4.free 1
      have y2 := kc4.free 2
      have xl := kc4.lt
      have hne4 : w.heap.size + 1 ≠ w3.heap.size + 1 := by omega
      have hne5 : w3.heap.size + 1 ≠ w.heap.size + 1 := by omega
      have HKc4 := hide kc4
      have HB5 := hide (HB4.out.trans (hb4.mono HB4.out.size))
      clear hW4 hb4 k4 kc4
      go_region
      all_goals go_wp2_with fail
      all_goals refine bodyPost_ret (v := .tuple #[.int .u64 (ni : Nat), .bool isb, _, .int .i64 0]) (res_s Tryz.results25 (put3_bk (show Bk W4.drew _ _ _ from HKc4.out) (.int .u64 rd) (.int .u64 wr) (.int .i64 fr)) rfl rfl rfl rfl) rfl ?_
      all_goals rw [HSb.out]
      all_goals exact ⟨rd, wr, fr, rfl, (below_drewN HB5.out 1).trans ((put3_fr W4.drew (w.heap.size + 1) _ _ _).toBelowB (fun k hk => by subst hk; omega) HB5.out.size)⟩
    · have hzb : (z == 0) = false := by simpa using hz
      have hsa := HSa.out
      rw [if_pos hz] at hsa
      have HSb := hide hsa
      clear hsa
      obtain ⟨tg, tdo, rfl, tk⟩ := ErrV.not Z4.out hz
      clear tk
      go_upto_region 7 with (go_at_call 44; refine Calls.mono (end_any B h p d ar _ z w2 Z2.out Z1.out Z4.out HG2.out) ?_; rintro e w3 ⟨u, rd, wr, fr, rfl, hd, hb, hfr⟩; clear hfr; obtain ⟨AE2, cE2, AW2, cW2, rfl, o1, o2⟩ := hd; clear o1 o2; have kc2 := HKC2.out.keep hb; have d0 := kc2.cell 0; have d1 := kc2.cell 1; have d2 := kc2.cell 2; have e0 := kc2.free 0; have e1 := kc2.free 1; have e2 := kc2.free 2; have lc := kc2.lt; have KC2 := hide kc2; have HB4 := hide (HBl2.out.trans (hb.mono HBl2.out.size)); clear kc2 hb)
      obtain ⟨W4, hW4⟩ : ∃ W4, W4 = (w3.alloc (.cells #[.int .i64 (endW d (some ar) z).1.size, .slice AE2 (endW d (some ar) z).1.exts.length cE2, .slice AW2 (endW d (some ar) z).1.waits.length cW2, .int .i64 (endW d (some ar) z).1.fuse, .bool (endW d (some ar) z).1.down] 25)).alloc (.cells #[.int .u64 rd, .int .u64 wr, .int .i64 fr] 29) := ⟨_, rfl⟩
      rw [← hW4]
      have hb4 : Below w3.heap.size w3 W4 := by rw [hW4]; exact ba2 _ _ _
      have k4 : Bk W4 (w3.heap.size + 1) 29 #[.int .u64 rd, .int .u64 wr, .int .i64 fr] := by rw [hW4]; exact Bk.new1 _ _ _ _
      have kc4 := KC2.out.keep hb4
      have g0 := k4.cell 0
      have g1 := k4.cell 1
      have g2 := k4.cell 2
      have gl := k4.lt
      have x0 := kc4.cell 0
      have x1 := kc4.cell 1
      have x2 := kc4.cell 2
      have y0 := kc4.free 0
      have y1 := kc4.free 1
      have y2 := kc4.free 2
      have xl := kc4.lt
      have hne4 : w.heap.size + 1 ≠ w3.heap.size + 1 := by omega
      have hne5 : w3.heap.size + 1 ≠ w.heap.size + 1 := by omega
      have HKc4 := hide kc4
      have HB5 := hide (HB4.out.trans (hb4.mono HB4.out.size))
      clear hW4 hb4 k4 kc4
      go_region
      all_goals go_wp2_with fail
      all_goals refine bodyPost_ret (v := .tuple #[.int .u64 0, .bool false, _, .int .i64 z]) (res_s Tryz.results25 (put3_bk (show Bk W4.drew _ _ _ from HKc4.out) (.int .u64 rd) (.int .u64 wr) (.int .i64 fr)) rfl rfl rfl rfl) rfl ?_
      all_goals rw [HSb.out]
      all_goals exact ⟨rd, wr, fr, rfl, (below_drewN HB5.out 1).trans ((put3_fr W4.drew (w.heap.size + 1) _ _ _).toBelowB (fun k hk => by subst hk; omega) HB5.out.size)⟩
  · obtain ⟨R, hR⟩ : ∃ R, R = sortedA d budget name := ⟨_, rfl⟩
    rw [← hR]
    unfold sortedA at hR
    rw [if_pos h0] at hR
    have HR := hide hR
    clear hR
    have h0b : (beginW d budget == 0) = false := by simpa using h0
    go_enter Tryz.func25, Tryz.ntmps25
    go_upto_region 5 with (go_at_call 42; rw [← HW0.out]; refine Calls.mono (HBg.out _ HB0.out) ?_; rintro e w1 ⟨h, ev, rfl, m1, m2, m3, m4, _⟩; obtain ⟨tg, tdo, rfl, tk⟩ := ErrV.not m3 h0; have M1 := hide m1; have M3 := hide m3; have M4 := hide (m4 h0); clear m1 m2 m3 m4 tk)
    have hen := endNo_any h (openD d).1 (.iface 148 (.pointer (some ⟨tg, 0, none⟩))) (beginW d budget) w1 M4.out M3.out (HG.out.keep (btrans HB0.out M1.out))
    have HEn := hide hen
    clear hen
    go_upto_region 7 with (go_at_call 44; refine Calls.mono HEn.out ?_; rintro e w3 ⟨u, rfl, hd, hb⟩; obtain ⟨AE2, cE2, AW2, cW2, rfl, o1, o2⟩ := hd; clear o1 o2; have kc2 := (HKC.out.keep M1.out).keep hb; have KC2 := hide kc2; have lc := kc2.lt; have HB4 := hide (btrans (btrans HB0.out M1.out) hb); clear kc2 hb)
    obtain ⟨W4, hW4⟩ : ∃ W4, W4 = (w3.alloc (.cells #[.int .i64 (openD d).1.size, .slice AE2 (openD d).1.exts.length cE2, .slice AW2 (openD d).1.waits.length cW2, .int .i64 (openD d).1.fuse, .bool (openD d).1.down] 25)).alloc (.cells #[.int .u64 0, .int .u64 0, .int .i64 0] 29) := ⟨_, rfl⟩
    rw [← hW4]
    have hb4 : Below w3.heap.size w3 W4 := by rw [hW4]; exact ba2 _ _ _
    have k4 : Bk W4 (w3.heap.size + 1) 29 #[.int .u64 0, .int .u64 0, .int .i64 0] := by rw [hW4]; exact Bk.new1 _ _ _ _
    have kc4 := KC2.out.keep hb4
    have g0 := k4.cell 0
    have g1 := k4.cell 1
    have g2 := k4.cell 2
    have gl := k4.lt
    have x0 := kc4.cell 0
    have x1 := kc4.cell 1
    have x2 := kc4.cell 2
    have y0 := kc4.free 0
    have y1 := kc4.free 1
    have y2 := kc4.free 2
    have xl := kc4.lt
    have hne4 : w.heap.size + 1 ≠ w3.heap.size + 1 := by omega
    have hne5 : w3.heap.size + 1 ≠ w.heap.size + 1 := by omega
    have HKc4 := hide kc4
    have HB5 := hide (HB4.out.trans (hb4.mono HB4.out.size))
    clear hW4 hb4 k4 kc4
    go_region
    all_goals go_wp2_with fail
    all_goals refine bodyPost_ret (v := .tuple #[.int .u64 0, .bool false, _, .int .i64 (beginW d budget)]) (res_s Tryz.results25 (put3_bk (show Bk W4.drew _ _ _ from HKc4.out) (.int .u64 0) (.int .u64 0) (.int .i64 0)) rfl rfl rfl rfl) rfl ?_
    all_goals rw [HR.out]
    all_goals exact ⟨0, 0, 0, rfl, (below_drewN HB5.out 1).trans ((put3_fr W4.drew (w.heap.size + 1) _ _ _).toBelowB (fun k hk => by subst hk; omega) HB5.out.size)⟩
end Go.Proofs.YtmopegpkoedgbaaGreatDoor
