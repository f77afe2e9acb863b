/- Lemmas for the row: LivX, MrgU, MrgX. -/
import Derived.Test.YtmopegpkoedgbaaGreatDoorM01
import Derived.Test.YtmopegpkoedgbaaGreatDoorM03
import Derived.Test.YtmopegpkoedgbaaGreatDoorM04
import Derived.Test.YtmopegpkoedgbaaGreatDoorM06
import Derived.Test.YtmopegpkoedgbaaGreatDoorM22
import Derived.Test.YtmopegpkoedgbaaGreatDoorM26
set_option linter.unusedVariables false
set_option linter.unusedSimpArgs false
/- Walk: wringerlaw10.lives. -/
namespace Go.Proofs.YtmopegpkoedgbaaGreatDoor
open Go.RowKit Go.Sort

theorem lx_z0 : SzD lx0 := lx_r0.sz (by decide +kernel)
theorem lx_z1 : SzD lx1 := lx_r1.sz (by decide +kernel)
theorem lx_z2 : SzD lx2 := lx_r2.sz (by decide +kernel)
theorem lx_z3 : SzD lx3 := lx_r3.sz (by decide +kernel)
theorem lx_z4 : SzD lx4 := lx_r4.sz (by decide +kernel)
/-- A disk lies in a cell. -/
def DkAt (w : World) (b : Nat) (AE : Option Addr) (cE : Nat) (AW : Option Addr) (cW : Nat) (d : Dsk) : Prop := Bk w b 25 #[.int .i64 d.size, .slice AE d.exts.length cE, .slice AW d.waits.length cW, .int .i64 d.fuse, .bool d.down] ∧ DvQ w (.agg #[.int .i64 d.size, .slice AE d.exts.length cE, .slice AW d.waits.length cW, .int .i64 d.fuse, .bool d.down]) d
theorem DkAt.keep {w w' : World} {b : Nat} {AE AW : Option Addr} {cE cW : Nat} {d : Dsk} (h : DkAt w b AE cE AW cW d) (hb : Below w.heap.size w w') : DkAt w' b AE cE AW cW d := ⟨h.1.keep hb, h.2.keep hb⟩
theorem DkAt.store {w : World} {b : Nat} {AE AW : Option Addr} {cE cW : Nat} {d : Dsk} {z0 z1 z2 z3 z4 : Value} (hk : Bk w b 25 #[z0, z1, z2, z3, z4]) (h : DvQ w (.agg #[.int .i64 d.size, .slice AE d.exts.length cE, .slice AW d.waits.length cW, .int .i64 d.fuse, .bool d.down]) d) : DkAt (pt5 w b (.int .i64 d.size) (.slice AE d.exts.length cE) (.slice AW d.waits.length cW) (.int .i64 d.fuse) (.bool d.down)) b AE cE AW cW d := ⟨pt5_bk hk _ _ _ _ _, h.pt5 hk _ _ _ _ _⟩
/-- A list of two rows of one number, as it is written down. -/
theorem lwrite (W : World) (v : Value) (d : Dsk) (name : ByteArray) (x y : Nat) (X Y : Int) (hX : X = (x : Nat)) (hY : Y = (y : Nat)) (hv : DvQ W v d) (hz : SzD d) :
    Calls Tryz.prog 39 #[v, .string name, .int .i64 1, .slice (some ⟨W.heap.size + 1 + 1, 0, none⟩) 2 2] (((W.alloc (.cells #[.int .u64 X] 27)).alloc (.cells #[.int .u64 Y] 27)).alloc (.cells #[.slice (some ⟨W.heap.size, 0, none⟩) 1 1, .slice (some ⟨W.heap.size + 1, 0, none⟩) 1 1] 63)) fun e w' => (∃ v', e = .returned (.tuple #[v', .int .i64 (writeR d name 1 [[x], [y]]).2]) ∧ DvQ w' v' (writeR d name 1 [[x], [y]]).1) ∧ Below W.heap.size W w' := by
  subst hX
  subst hY
  obtain ⟨W3, hW3⟩ : ∃ W3, W3 = ((W.alloc (.cells #[.int .u64 (x : Nat)] 27)).alloc (.cells #[.int .u64 (y : Nat)] 27)).alloc (.cells #[.slice (some ⟨W.heap.size, 0, none⟩) 1 1, .slice (some ⟨W.heap.size + 1, 0, none⟩) 1 1] 63) := ⟨_, rfl⟩
  have hb : Below W.heap.size W W3 := by rw [hW3]; exact btrans (ba2 _ _ _) (ba1 _ _)
  have k1 : Bk W3 W.heap.size 27 #[.int .u64 (x : Nat)] := by rw [hW3]; exact ((Bk.new _ _ _).alloc _).alloc _
  have k2 : Bk W3 (W.heap.size + 1) 27 #[.int .u64 (y : Nat)] := by rw [hW3]; exact (Bk.new1 _ _ _ _).alloc _
  have k3 : Bk W3 (W.heap.size + 1 + 1) 63 #[.slice (some ⟨W.heap.size, 0, none⟩) 1 1, .slice (some ⟨W.heap.size + 1, 0, none⟩) 1 1] := by rw [hW3]; exact Bk.new2 _ _ _ _ _
  rw [← hW3]
  have one : ∀ (g : Nat) (z : Nat), Bk W3 g 27 #[.int .u64 (z : Nat)] → Rd W3 W3.heap.size (some ⟨g, 0, none⟩) (vu64 [z]) := fun g z hk i u hu => by
    have hi : i = 0 := by
      have := (List.getElem?_eq_some_iff.1 hu).1
      simp [vu64] at this
      exact this
    subst hi
    refine ⟨g, 0, rfl, hk.lt, ?_⟩
    rw [Nat.zero_add, hk.cell 0]
    exact hu
  have hrows : RowsAt W3 W3.heap.size (some ⟨W.heap.size + 1 + 1, 0, none⟩) [[x], [y]] := by
    refine ⟨[.slice (some ⟨W.heap.size, 0, none⟩) 1 1, .slice (some ⟨W.heap.size + 1, 0, none⟩) 1 1], fun i u hu => ⟨_, 0, rfl, k3.lt, ?_⟩, rfl, fun i l hl => ?_⟩
    · rw [Nat.zero_add, k3.cell i]
      rw [← hu]
      simp
    · match i, hl with
      | 0, hl =>
        cases hl
        exact ⟨(by decide : 1 ≤ 1000000000), some ⟨W.heap.size, 0, none⟩, 1, rfl, one _ _ k1⟩
      | 1, hl =>
        cases hl
        exact ⟨(by decide : 1 ≤ 1000000000), some ⟨W.heap.size + 1, 0, none⟩, 1, rfl, one _ _ k2⟩
      | i + 2, hl => simp at hl
  refine (write_any v d name 1 (some ⟨W.heap.size + 1 + 1, 0, none⟩) 2 [[x], [y]] W3 (hv.keep hb).dv hz hrows (by decide : 2 ≤ 1000000000) ⟨by decide, by decide⟩).mono ?_
  rintro e w' ⟨h1, h2⟩
  exact ⟨h1, hb.trans (h2.mono hb.size)⟩
/-- Two names, as they are written down. -/
theorem names2 (W : World) (s t : ByteArray) : Rd (W.alloc (.cells #[.string s, .string t] 9)) (W.alloc (.cells #[.string s, .string t] 9)).heap.size (some ⟨W.heap.size, 0, none⟩) (vstr [s, t]) := fun i u hu => by
  refine ⟨_, 0, rfl, by simp, ?_⟩
  rw [Nat.zero_add, (Bk.new W _ _).cell i, ← hu]
  simp [vstr]
theorem bal1b {w w' : World} {X : Obj} (h : Below (w.alloc X).heap.size (w.alloc X) w') : Below w.heap.size w w' := btrans (ba1 _ _) h
set_option maxRecDepth 100000 in
set_option maxHeartbeats 16000000 in
theorem livesX_any (o : Addr) (w : World) (hG : LaidE w) (hO : OrdAt w o) : Calls Tryz.prog 23 #[] w fun e w' => e = .returned (.bool true) ∧ Below w.heap.size w w' := by
  have hmk := make_disk 30 w
  rw [lx_make, show (makeD 30).1 = lx0 from rfl] at hmk
  have HMk := hide hmk
  have HG := hide hG
  have HO := hide hO
  clear hmk hG hO
  go_enter Tryz.func23, Tryz.ntmps23
  go_upto_region 2 with (go_at_call 38; refine Calls.mono HMk.out ?_; rintro e q0 ⟨rfl, hb0⟩; have HBq := hide hb0; clear hb0)
  obtain ⟨W0, hW⟩ : ∃ W, W = q0.alloc (.cells #[.int .i64 lx0.size, .slice none 0 0, .slice none 0 0, .int .i64 lx0.fuse, .bool false] 25) := ⟨_, rfl⟩
  have hd0 : DkAt W0 q0.heap.size none 0 none 0 lx0 := by
    rw [hW]
    exact ⟨Bk.new _ _ _, none, 0, none, 0, rfl, ⟨rfl, .inl ⟨rfl, rfl⟩⟩, ⟨rfl, .inl ⟨rfl, rfl⟩⟩⟩
  have hbn : Below w.heap.size w W0 := by rw [hW]; exact btrans HBq.out (ba1 _ _)
  rw [← hW]
  obtain ⟨bd, hbd⟩ : ∃ bd, bd = q0.heap.size := ⟨_, rfl⟩
  simp only [← hbd]
  rw [← hbd] at hd0
  have HBd := hide (show w.heap.size ≤ bd by rw [hbd]; exact HBq.out.size)
  have HD0 := hide hd0
  have HB0 := hide hbn
  clear hd0 hbn hW hbd HBq HMk
  obtain ⟨p0, p1, p2, p3, p4⟩ := five_cells HD0.out.1
  obtain ⟨f0, f1, f2, f3, f4⟩ := five_free HD0.out.1
  have pl := HD0.out.1.lt
  have hwr := lwrite W0 _ lx0 nA 1 5 1 5 rfl rfl HD0.out.2 lx_z0
  rw [lx_w1, show (writeR lx0 nA 1 [[1], [5]]).1 = lx1 from rfl] at hwr
  have HWr := hide hwr
  clear hwr
  go_upto_region 3 with (go_at_call 39; refine Calls.mono HWr.out ?_; rintro e q1 ⟨⟨v1, rfl, hq1⟩, hb1⟩; have HDQ := hide hq1; obtain ⟨AE1, cE1, AW1, cW1, rfl, o1, o2⟩ := hq1; clear o1 o2; have kq := HD0.out.1.keep hb1; obtain ⟨p0, p1, p2, p3, p4⟩ := five_cells kq; obtain ⟨f0, f1, f2, f3, f4⟩ := five_free kq; have pl := kq.lt; have HKq := hide kq; have HBq := hide hb1; clear hb1 kq)
  clear HWr
  have hst := DkAt.store HKq.out HDQ.out
  obtain ⟨W1, hW⟩ : ∃ W, W = pt5 q1 bd (.int .i64 lx1.size) (.slice AE1 lx1.exts.length cE1) (.slice AW1 lx1.waits.length cW1) (.int .i64 lx1.fuse) (.bool lx1.down) := ⟨_, rfl⟩
  have hbn : Below w.heap.size w W1 := by
    rw [hW]
    exact (HB0.out.trans (HBq.out.mono HB0.out.size)).trans ((pt5_fr q1 bd _ _ _ _ _).toBelowB (fun k hk => by rw [hk]; exact HBd.out) (Nat.le_trans HB0.out.size HBq.out.size))
  rw [← hW] at hst
  have HD1 := hide hst
  have HB1 := hide hbn
  unfold pt5 at hW
  rw [← hW]
  clear hst hbn hW HKq HDQ HBq p0 p1 p2 p3 p4 f0 f1 f2 f3 f4 pl HD0 HB0
  obtain ⟨p0, p1, p2, p3, p4⟩ := five_cells HD1.out.1
  obtain ⟨f0, f1, f2, f3, f4⟩ := five_free HD1.out.1
  have pl := HD1.out.1.lt
  have hwr := lwrite W1 _ lx1 nB 2 5 2 5 rfl rfl HD1.out.2 lx_z1
  rw [lx_w2, show (writeR lx1 nB 1 [[2], [5]]).1 = lx2 from rfl] at hwr
  have HWr := hide hwr
  clear hwr
  go_upto_region 4 with (go_at_call 39; refine Calls.mono HWr.out ?_; rintro e q2 ⟨⟨v2, rfl, hq2⟩, hb2⟩; have HDQ := hide hq2; obtain ⟨AE2, cE2, AW2, cW2, rfl, o1, o2⟩ := hq2; clear o1 o2; have kq := HD1.out.1.keep hb2; obtain ⟨p0, p1, p2, p3, p4⟩ := five_cells kq; obtain ⟨f0, f1, f2, f3, f4⟩ := five_free kq; have pl := kq.lt; have HKq := hide kq; have HBq := hide hb2; clear hb2 kq)
  clear HWr
  have hst := DkAt.store HKq.out HDQ.out
  obtain ⟨W2, hW⟩ : ∃ W, W = pt5 q2 bd (.int .i64 lx2.size) (.slice AE2 lx2.exts.length cE2) (.slice AW2 lx2.waits.length cW2) (.int .i64 lx2.fuse) (.bool lx2.down) := ⟨_, rfl⟩
  have hbn : Below w.heap.size w W2 := by
    rw [hW]
    exact (HB1.out.trans (HBq.out.mono HB1.out.size)).trans ((pt5_fr q2 bd _ _ _ _ _).toBelowB (fun k hk => by rw [hk]; exact HBd.out) (Nat.le_trans HB1.out.size HBq.out.size))
  rw [← hW] at hst
  have HD2 := hide hst
  have HB2 := hide hbn
  unfold pt5 at hW
  rw [← hW]
  clear hst hbn hW HKq HDQ HBq p0 p1 p2 p3 p4 f0 f1 f2 f3 f4 pl HD1 HB1
  obtain ⟨p0, p1, p2, p3, p4⟩ := five_cells HD2.out.1
  obtain ⟨f0, f1, f2, f3, f4⟩ := five_free HD2.out.1
  have pl := HD2.out.1.lt
  have hwr := lwrite W2 _ lx2 nC 2 1 2 1 rfl rfl HD2.out.2 lx_z2
  rw [lx_w3, show (writeR lx2 nC 1 [[2], [1]]).1 = lx3 from rfl] at hwr
  have HWr := hide hwr
  clear hwr
  go_upto_region 5 with (go_at_call 39; refine Calls.mono HWr.out ?_; rintro e q3 ⟨⟨v3, rfl, hq3⟩, hb3⟩; have HDQ := hide hq3; obtain ⟨AE3, cE3, AW3, cW3, rfl, o1, o2⟩ := hq3; clear o1 o2; have kq := HD2.out.1.keep hb3; obtain ⟨p0, p1, p2, p3, p4⟩ := five_cells kq; obtain ⟨f0, f1, f2, f3, f4⟩ := five_free kq; have pl := kq.lt; have HKq := hide kq; have HBq := hide hb3; clear hb3 kq)
  clear HWr
  have hst := DkAt.store HKq.out HDQ.out
  obtain ⟨W3, hW⟩ : ∃ W, W = pt5 q3 bd (.int .i64 lx3.size) (.slice AE3 lx3.exts.length cE3) (.slice AW3 lx3.waits.length cW3) (.int .i64 lx3.fuse) (.bool lx3.down) := ⟨_, rfl⟩
  have hbn : Below w.heap.size w W3 := by
    rw [hW]
    exact (HB2.out.trans (HBq.out.mono HB2.out.size)).trans ((pt5_fr q3 bd _ _ _ _ _).toBelowB (fun k hk => by rw [hk]; exact HBd.out) (Nat.le_trans HB2.out.size HBq.out.size))
  rw [← hW] at hst
  have HD3 := hide hst
  have HB3 := hide hbn
  unfold pt5 at hW
  rw [← hW]
  clear hst hbn hW HKq HDQ HBq p0 p1 p2 p3 p4 f0 f1 f2 f3 f4 pl HD2 HB2
  have HG3 := hide (HG.out.keep HB3.out)
  have HO3 := hide (show OrdAt W3 o from (HB3.out.cell (p := ⟨0, 0, none⟩) (World.block_lt_of_cell? w _ HO.out)).trans HO.out)
  obtain ⟨p0, p1, p2, p3, p4⟩ := five_cells HD3.out.1
  have pl := HD3.out.1.lt
  have hnm : ∀ (a b : ByteArray), a.size ≤ 100 → b.size ≤ 100 → ∀ s ∈ [a, b], s.size ≤ 100000000 := fun a b ha hb s hs => by
    rcases List.mem_cons.1 hs with e | hs
    · rw [e]; omega
    · rw [List.mem_singleton] at hs; rw [hs]; omega
  have hmg := fun (W : World) (v : Value) (t : ByteArray) (ht : t.size ≤ 100) (hv : DvQ W v lx3) (hg : LaidE W) (ho : OrdAt W o) => merge_any v lx3 24 nX (some ⟨W.heap.size, 0, none⟩) 2 [nA, t] o (W.alloc (.cells #[.string nA, .string t] 9)) (hv.keep (ba1 _ _)).dv lx_z3 (hg.keep (ba1 _ _)) (show OrdAt _ o from ((ba1 W _).cell (p := ⟨0, 0, none⟩) (World.block_lt_of_cell? W _ ho)).trans ho) (names2 W nA t) (hnm nA t (by decide) ht) (by decide : 2 ≤ 1000000) (by decide) ⟨by decide, by decide⟩
  have hm1 := hmg W3 _ nB (by decide) HD3.out.2 HG3.out HO3.out
  have hm2 := hmg
  rw [show mergeA lx3 24 nX [nA, nB] = lxM from rfl] at hm1
  have HM1 := hide hm1
  have HMg := hide hm2
  clear hmg hm1 hm2 hnm
  have hmz : lxM.2.2 = 0 := lx_m.1
  go_upto_region 6 with (go_at_call 24; refine Calls.mono HM1.out ?_; rintro e q5 ⟨u, rd, wr, fr, rfl, hdo, hb5, hfr⟩; have hfp : 0 < fr := (by rw [hfr lx_m.1]; have := lx_m.2; omega); have HDQ := hide (show DvQ q5 u lx4 from hdo); obtain ⟨AE5, cE5, AW5, cW5, rfl, o1, o2⟩ := hdo; clear o1 o2 hfr; have HBq := hide (bal1b hb5); clear hb5)
  obtain ⟨W5, hW⟩ : ∃ W, W = (q5.alloc (.cells #[.int .i64 lxM.1.size, .slice AE5 lxM.1.exts.length cE5, .slice AW5 lxM.1.waits.length cW5, .int .i64 lxM.1.fuse, .bool lxM.1.down] 25)).alloc (.cells #[.int .u64 rd, .int .u64 wr, .int .i64 fr] 29) := ⟨_, rfl⟩
  have hbw : Below q5.heap.size q5 W5 := by rw [hW]; exact ba2 _ _ _
  have hb35 : Below W3.heap.size W3 W5 := btrans HBq.out hbw
  have kd5 : Bk W5 q5.heap.size 25 #[.int .i64 lxM.1.size, .slice AE5 lxM.1.exts.length cE5, .slice AW5 lxM.1.waits.length cW5, .int .i64 lxM.1.fuse, .bool lxM.1.down] := by rw [hW]; exact (Bk.new _ _ _).alloc _
  have kc5 : Bk W5 (q5.heap.size + 1) 29 #[.int .u64 rd, .int .u64 wr, .int .i64 fr] := by rw [hW]; exact Bk.new1 _ _ _ _
  have hrd := read_any _ lx4 nX W5 (HDQ.out.keep hbw).dv lx_z4
  rw [lx_r] at hrd
  dsimp only at hrd
  rw [← hW]
  have HRd := hide hrd
  have HD5 := hide (HD3.out.keep hb35)
  have HC5 := hide kc5
  have HB5 := hide (HB3.out.trans (hb35.mono HB3.out.size))
  obtain ⟨d0, d1, d2, d3, d4⟩ := five_cells kd5
  have dl := kd5.lt
  clear hbw hb35 kd5 kc5 hrd hW p0 p1 p2 p3 p4 pl HM1 HBq HDQ HD3 HB3 HG3 HO3
  go_upto_region 7 with (go_at_call 14; refine Calls.mono HRd.out ?_; rintro e W6 ⟨lv, rfl, hro, hb6⟩; have HRo := hide hro; have HD6 := hide (HD5.out.keep hb6); have HC6 := hide (HC5.out.keep hb6); have HB6 := hide (HB5.out.trans (hb6.mono HB5.out.size)); clear hro hb6)
  have HG6 := hide (HG.out.keep HB6.out)
  have HO6 := hide (show OrdAt W6 o from (HB6.out.cell (p := ⟨0, 0, none⟩) (World.block_lt_of_cell? w _ HO.out)).trans HO.out)
  obtain ⟨p0, p1, p2, p3, p4⟩ := five_cells HD6.out.1
  have pl := HD6.out.1.lt
  have hm2 := HMg.out W6 _ nC (by decide) HD6.out.2 HG6.out HO6.out
  have hmy : (mergeA lx3 24 nX [nA, nC]).2.2 = 12 := lx_n
  obtain ⟨mY, hmY⟩ : ∃ mY, mY = mergeA lx3 24 nX [nA, nC] := ⟨_, rfl⟩
  rw [← hmY] at hm2 hmy
  have HM2 := hide hm2
  clear hm2 hmY HMg HRd HD5 HC5 HB5 d0 d1 d2 d3 d4 dl
  go_upto_region 8 with (go_at_call 24; refine Calls.mono HM2.out ?_; rintro e q7 ⟨u, rd7, wr7, fr7, rfl, hdo, hb7, hfr⟩; clear hfr; obtain ⟨AE7, cE7, AW7, cW7, rfl, o1, o2⟩ := hdo; clear o1 o2; have HBq := hide (bal1b hb7); clear hb7)
  obtain ⟨W7, hW⟩ : ∃ W, W = (q7.alloc (.cells #[.int .i64 mY.1.size, .slice AE7 mY.1.exts.length cE7, .slice AW7 mY.1.waits.length cW7, .int .i64 mY.1.fuse, .bool mY.1.down] 25)).alloc (.cells #[.int .u64 rd7, .int .u64 wr7, .int .i64 fr7] 29) := ⟨_, rfl⟩
  have hb67 : Below W6.heap.size W6 W7 := by rw [hW]; exact btrans HBq.out (ba2 _ _ _)
  rw [← hW]
  have HRo7 := hide (HRo.out.keep hb67)
  have HD7 := hide (HD6.out.keep hb67)
  have HC7 := hide (HC6.out.keep hb67)
  have HB7 := hide (HB6.out.trans (hb67.mono HB6.out.size))
  clear hW hb67 HBq HRo HD6 HC6 HB6 HG6 HO6 HM2 p0 p1 p2 p3 p4 pl
  have HG7 := hide (HG.out.keep HB7.out)
  have HO7 := hide (show OrdAt W7 o from (HB7.out.cell (p := ⟨0, 0, none⟩) (World.block_lt_of_cell? w _ HO.out)).trans HO.out)
  obtain ⟨p0, p1, p2, p3, p4⟩ := five_cells HD7.out.1
  have pl := HD7.out.1.lt
  have hso := sorted_any _ lx3 24 nC o W7 HD7.out.2.dv lx_z3 HG7.out HO7.out (by decide)
  rw [lx_sC.1, lx_sC.2.1, lx_sC.2.2] at hso
  have HSo := hide hso
  clear hso
  go_upto_region 9 with (go_at_call 25; refine Calls.mono HSo.out ?_; rintro e q8 ⟨rd8, wr8, fr8, rfl, hb⟩; have HBq := hide hb; clear hb)
  obtain ⟨W8, hW⟩ : ∃ W, W = q8.alloc (.cells #[.int .u64 rd8, .int .u64 wr8, .int .i64 fr8] 29) := ⟨_, rfl⟩
  have hbn : Below W7.heap.size W7 W8 := by rw [hW]; exact btrans HBq.out (ba1 _ _)
  rw [← hW]
  have HRo8 := hide (HRo7.out.keep hbn)
  have HD8 := hide (HD7.out.keep hbn)
  have HC8 := hide (HC7.out.keep hbn)
  have HB8 := hide (HB7.out.trans (hbn.mono HB7.out.size))
  clear hW hbn HBq HRo7 HD7 HC7 HB7 HG7 HO7 HSo p0 p1 p2 p3 p4 pl
  have HG8 := hide (HG.out.keep HB8.out)
  have HO8 := hide (show OrdAt W8 o from (HB8.out.cell (p := ⟨0, 0, none⟩) (World.block_lt_of_cell? w _ HO.out)).trans HO.out)
  obtain ⟨p0, p1, p2, p3, p4⟩ := five_cells HD8.out.1
  have pl := HD8.out.1.lt
  have hso := sorted_any _ lx3 24 nA o W8 HD8.out.2.dv lx_z3 HG8.out HO8.out (by decide)
  rw [lx_sA.1, lx_sA.2.1, lx_sA.2.2] at hso
  have HSo := hide hso
  clear hso
  go_upto_region 10 with (go_at_call 25; refine Calls.mono HSo.out ?_; rintro e q9 ⟨rd9, wr9, fr9, rfl, hb⟩; have HBq := hide hb; clear hb)
  obtain ⟨W9, hW⟩ : ∃ W, W = q9.alloc (.cells #[.int .u64 rd9, .int .u64 wr9, .int .i64 fr9] 29) := ⟨_, rfl⟩
  have hbn : Below W8.heap.size W8 W9 := by rw [hW]; exact btrans HBq.out (ba1 _ _)
  rw [← hW]
  have HRo9 := hide (HRo8.out.keep hbn)
  have HD9 := hide (HD8.out.keep hbn)
  have HC9 := hide (HC8.out.keep hbn)
  have HB9 := hide (HB8.out.trans (hbn.mono HB8.out.size))
  clear hW hbn HBq HRo8 HD8 HC8 HB8 HG8 HO8 HSo p0 p1 p2 p3 p4 pl
  have hp := fun W => passes_any 24 19 W ⟨by decide, by decide⟩ ⟨by decide, by decide⟩
  have hf := fun W => fan_any 24 W ⟨by decide, by decide⟩
  have hg := fun W => fan_any 23 W ⟨by decide, by decide⟩
  rw [lx_p] at hp
  rw [lx_f] at hf
  rw [lx_g] at hg
  dsimp only at hp hf hg
  have HP := hide hp
  have HF := hide hf
  have HG' := hide hg
  clear hp hf hg
  go_upto_region 11 with (go_at_call 21; refine (HP.out _).mono ?_; rintro e w1 ⟨rfl, ew⟩; obtain rfl : W9 = w1 := ew.symm)
  go_upto_region 12 with (go_at_call 19; refine (HF.out _).mono ?_; rintro e w1 ⟨rfl, ew⟩; obtain rfl : W9 = w1 := ew.symm)
  obtain ⟨vs, hov, hks⟩ := HRo9.out
  obtain ⟨A, c, rfl⟩ := own_formk hov
  obtain ⟨rb, rfl, _⟩ := own_some hov (by decide)
  obtain ⟨_, A1, c1, hv1, ho1⟩ := hks.row 1 [2] rfl
  obtain ⟨r1, rfl, _⟩ := own_some ho1 (by decide)
  have hc1 := hov.cells (g := rb) rfl 1 _ hv1
  have hc2 := ho1.cells (g := r1) rfl 0 _ rfl
  rw [Addr.add_lit] at hc1 hc2
  have hl1 := own_lt hov rb rfl
  have hl2 := own_lt ho1 r1 rfl
  have g0 := HC9.out.cell 0
  have g1 := HC9.out.cell 1
  have g2 := HC9.out.cell 2
  have gl := HC9.out.lt
  clear hov hks ho1 HRo9 HD9 hv1 HP HF p0 p1 p2 p3 p4 f0 f1 f2 f3 f4 pl
  go_wp2_with (go_at_call 19; refine (HG'.out _).mono ?_; rintro e w1 ⟨rfl, ew⟩; obtain rfl : W9 = w1 := ew.symm)
  all_goals refine bodyPost_ret (v := .bool true) (by simp [results, Tryz.results23]) rfl ?_
  all_goals exact ⟨rfl, HB9.out⟩
end Go.Proofs.YtmopegpkoedgbaaGreatDoor
/- The laws MergeTells and MergePasses: walks. -/
namespace Go.Proofs.YtmopegpkoedgbaaGreatDoor
open Go.RowKit Go.Sort

set_option maxRecDepth 100000 in
set_option maxHeartbeats 2000000 in
theorem mergeTells_any (o : Addr) (b f : Int) (w : World) (hb : I64 b) (hf : I64 f) (hG : LaidE w) (hO : OrdAt w o) : Calls Tryz.prog 5 #[.int .i64 b, .int .i64 f] w fun e w' => e = .returned (.bool true) ∧ Below w.heap.size w w' := by
  have h1 := fun W => fan_any b W hb
  have h2 := fun W => rfan_any b W hb
  have h3 := fun W => passes_any b f W hb hf
  have h4 := fun W => rpasses_any b f W hb hf
  have h5 := livesX_any o w hG hO
  obtain ⟨F1, hF1⟩ : ∃ x, x = (fanW b).1 := ⟨_, rfl⟩
  obtain ⟨F2, hF2⟩ : ∃ x, x = (fanW b).2 := ⟨_, rfl⟩
  obtain ⟨P1, hP1⟩ : ∃ x, x = (passW b f).1 := ⟨_, rfl⟩
  obtain ⟨P2, hP2⟩ : ∃ x, x = (passW b f).2 := ⟨_, rfl⟩
  simp only [← hF1, ← hF2] at h1 h2
  simp only [← hP1, ← hP2] at h3 h4
  have H1 := hide h1
  have H2 := hide h2
  have H3 := hide h3
  have H4 := hide h4
  have H5 := hide h5
  clear h1 h2 h3 h4 h5 hF1 hF2 hP1 hP2 hb hf hG hO
  go_enter Tryz.func5, Tryz.ntmps5
  go_wp2_with (first
    | (go_at_call 19; refine (H1.out _).mono ?_; rintro e w1 ⟨rfl, ew⟩; obtain rfl : w = w1 := ew.symm)
    | (go_at_call 20; refine (H2.out _).mono ?_; rintro e w1 ⟨rfl, ew⟩; obtain rfl : w = w1 := ew.symm)
    | (go_at_call 21; refine (H3.out _).mono ?_; rintro e w1 ⟨rfl, ew⟩; obtain rfl : w = w1 := ew.symm)
    | (go_at_call 22; refine (H4.out _).mono ?_; rintro e w1 ⟨rfl, ew⟩; obtain rfl : w = w1 := ew.symm)
    | (go_at_call 23; refine Calls.mono H5.out ?_; rintro e w5 ⟨rfl, hb5⟩; have HB5 := hide hb5; clear hb5))
  all_goals trace_state
  all_goals refine bodyPost_ret (v := .bool true) (by simp [results, Tryz.results5]) rfl ?_
  all_goals exact ⟨rfl, HB5.out⟩
end Go.Proofs.YtmopegpkoedgbaaGreatDoor
/- The law MergePasses: its walk. -/
namespace Go.Proofs.YtmopegpkoedgbaaGreatDoor
open Go.RowKit Go.Sort

theorem passW_zero {b f : Int} (h : (passW b f).2 ≠ 0) : (passW b f).1 = 0 := by
  unfold passW at h ⊢
  split
  · rfl
  · rename_i h0
    rw [if_neg h0] at h
    split
    · rfl
    · rename_i h1
      rw [if_neg h1] at h
      exact absurd rfl h
theorem passW_fan {b f : Int} (h : (fanW b).2 ≠ 0) : (passW b f).2 ≠ 0 := by
  unfold passW
  rw [if_pos h]
  exact h
theorem passW_ok {b f : Int} (h : (passW b f).2 = 0) : ∃ k x n : Nat, fanW b = ((k : Int), 0) ∧ passW b f = ((n : Int), 0) ∧ f = (x : Int) ∧ 2 ≤ k ∧ k ≤ 250 ∧ x ≤ 65536 ∧ n = passL k (x + 1) x 0 := by
  have h0 : (fanW b).2 = 0 := by
    by_cases h0 : (fanW b).2 = 0
    · exact h0
    · exact absurd h (passW_fan h0)
  have hfb : fanW b = (b - 6, 0) ∧ 24 ≤ b ∧ b ≤ 256 := by
    unfold fanW at h0 ⊢
    split at h0
    · cases h0
    · split at h0
      · cases h0
      · rename_i h1 h2
        rw [if_neg h1, if_neg h2]
        exact ⟨rfl, by omega, by omega⟩
  obtain ⟨hfb, hb24, hb256⟩ := hfb
  have h1 : ¬ (f < 0 ∨ 65536 < f) := fun h1 => by
    unfold passW at h
    rw [if_neg (by rw [h0]; exact fun e => e rfl), if_pos h1] at h
    cases h
  refine ⟨(b - 6).toNat, f.toNat, _, ?_, ?_, ?_, ?_, ?_, ?_, rfl⟩
  · rw [hfb, Int.toNat_of_nonneg (by omega)]
  · unfold passW
    rw [if_neg (by rw [h0]; exact fun e => e rfl), if_neg h1]
  all_goals omega
theorem pow_lt {k m n x : Nat} (hk : 2 ≤ k) (h : k ^ n < x) (hm : m ≤ n) : k ^ m < x := Nat.lt_of_le_of_lt (Nat.pow_le_pow_right (by omega) hm) h
set_option maxRecDepth 100000 in
set_option maxHeartbeats 4000000 in
theorem mergePasses_any (o : Addr) (b f : Int) (w : World) (hb : I64 b) (hf : I64 f) (hG : LaidE w) (hO : OrdAt w o) : Calls Tryz.prog 6 #[.int .i64 b, .int .i64 f] w fun e w' => e = .returned (.bool true) ∧ Below w.heap.size w w' := by
  have h1 := fun W => fan_any b W hb
  have h3 := fun W => passes_any b f W hb hf
  have h5 := livesX_any o w hG hO
  have H5 := hide h5
  clear h5 hG hO
  by_cases hok : (passW b f).2 = 0
  · obtain ⟨k, x, n, e1, e2, rfl, hk, hk2, hx, hn⟩ := passW_ok hok
    rw [e1] at h1
    rw [e2] at h3
    obtain ⟨g1, g2, g3⟩ := passL_law k hk (x + 1) x (by omega)
    rw [← hn] at g1 g2 g3
    have G1 := hide g1
    have G2 := hide g2
    have G3 := hide g3
    have H1 := hide h1
    have H3 := hide h3
    have HX := hide hx
    have hnx : n ≤ 65536 := by
      by_cases h0 : n = 0
      · omega
      · have := g2 h0
        have a1 : n - 1 < 2 ^ (n - 1) := Nat.lt_two_pow_self
        have a2 : 2 ^ (n - 1) ≤ k ^ (n - 1) := Nat.pow_le_pow_left hk _
        omega
    clear h1 h3 g1 g2 g3 e1 e2 hok hn hf
    go_enter Tryz.func6, Tryz.ntmps6
    go_upto_region 9 with (first
      | (go_at_call 23; refine Calls.mono H5.out ?_; rintro e w5 ⟨rfl, hb5⟩; have HB5 := hide hb5; clear hb5)
      | (go_at_call 19; refine (H1.out _).mono ?_; rintro e w1 ⟨rfl, ew⟩; obtain rfl : w5 = w1 := ew.symm)
      | (go_at_call 21; refine (H3.out _).mono ?_; rintro e w1 ⟨rfl, ew⟩; obtain rfl : w5 = w1 := ew.symm))
    go_loopw [9, 10] (fun a c wr => ∃ m i : Nat, a = .int .i64 m ∧ c = .int .i64 i ∧ i ≤ n ∧ Hid (m = k ^ i) ∧ m ≤ 20000000 ∧ wr = w5) (fun _ c _ => ((n : Int) - intOf c).toNat)
    case atStart => exact ⟨1, 0, rfl, rfl, by omega, hide (by simp), by omega, rfl⟩
    case round =>
      obtain ⟨m, i, rfl, rfl, hi, HM, hm, rfl⟩ := hrel
      by_cases hgo : i < n ∧ m < x
      · obtain ⟨q1, q2⟩ := hgo
        have q1I : (i : Int) < (n : Int) := by omega
        have q2I : (m : Int) < (x : Int) := by omega
        obtain ⟨z, hz⟩ : ∃ z, z = m * k := ⟨_, rfl⟩
        have hzI : (m : Int) * (k : Int) = (z : Int) := by rw [hz]; simp
        have hzl : z ≤ 20000000 := by
          have : m * k ≤ 65536 * 250 := Nat.mul_le_mul (by omega) hk2
          omega
        have hzw : IntKind.i64.wrap ((m : Int) * (k : Int)) = (z : Int) := by rw [hzI]; exact IntWalk.i64_in _ ⟨by omega, by omega⟩
        have HZ := hide hz
        clear hz hzI
        go_wp2_with fail
        exact ⟨⟨z, i + 1, rfl, v_int (by omega), by omega, hide (by rw [HZ.out, HM.out, Nat.pow_succ]), hzl, trivial⟩, by simp [intOf]; omega⟩
      · have hmx : x ≤ m := by
          by_cases q1 : i < n
          · omega
          · have e : i = n := by omega
            rw [HM.out, e]
            exact G1.out
        have hmI : (x : Int) ≤ (m : Int) := by omega
        have hnw : IntKind.i64.wrap ((n : Int) - 1) = (n : Int) - 1 := IntWalk.i64_in _ ⟨by omega, by omega⟩
        have hor : ¬ (i : Int) < (n : Int) ∨ ((i : Int) < (n : Int) ∧ ¬ (m : Int) < (x : Int)) := by omega
        clear hgo HM hm
        rcases hor with q1I | ⟨q1I, q2I⟩
        all_goals (
          go_upto_region 14 with fail
          go_loopw [11, 12] (fun a c wr2 => ∃ l j : Nat, a = .int .i64 l ∧ c = .int .i64 j ∧ (n = 0 → j = 0) ∧ (n ≠ 0 → j ≤ n - 1) ∧ Hid (l = k ^ j) ∧ wr2 = wr) (fun _ c _ => ((n : Int) - intOf c).toNat)
          case atStart => exact ⟨1, 0, rfl, rfl, fun _ => rfl, fun _ => by omega, hide (by simp), rfl⟩
          case round =>
            obtain ⟨l, j, rfl, rfl, hj0, hj, HM, rfl⟩ := hrel
            by_cases hn0 : n = 0
            · have hx1 := G3.out.1 hn0
              have hjz := hj0 hn0
              have nI : ¬ (j : Int) < (n : Int) - 1 := by omega
              have n0 : ((n : Int) == 0) = true := by rw [hn0]; rfl
              have x1I : (x : Int) ≤ 1 := by omega
              clear hj0 hj hx1 hjz hn0 HM
              go_wp2_with fail
              all_goals refine bodyPost_ret (v := .bool true) (by simp [results, Tryz.results6]) rfl ?_
              all_goals exact ⟨rfl, HB5.out⟩
            · have hx1 : ¬ x ≤ 1 := fun e => hn0 (G3.out.2 e)
              have hj1 := hj hn0
              have hlx : l < x := by rw [HM.out]; exact pow_lt hk (G2.out hn0) hj1
              have lI : (l : Int) < (x : Int) := by omega
              have n0 : ((n : Int) == 0) = false := by simp; omega
              have x1I : ¬ (x : Int) ≤ 1 := by omega
              by_cases hjn : j < n - 1
              · have nI : (j : Int) < (n : Int) - 1 := by omega
                obtain ⟨z, hz⟩ : ∃ z, z = l * k := ⟨_, rfl⟩
                have hzI : (l : Int) * (k : Int) = (z : Int) := by rw [hz]; simp
                have hzl : z ≤ 20000000 := by
                  have : l * k ≤ 65536 * 250 := Nat.mul_le_mul (by omega) hk2
                  omega
                have hzw : IntKind.i64.wrap ((l : Int) * (k : Int)) = (z : Int) := by rw [hzI]; exact IntWalk.i64_in _ ⟨by omega, by omega⟩
                have HZ := hide hz
                have HN := hide hn0
                clear hz hzI hj0 hj hx1 hn0
                go_wp2_with fail
                exact ⟨⟨z, j + 1, rfl, v_int (by omega), fun e => absurd e HN.out, fun _ => by omega, hide (by rw [HZ.out, HM.out, Nat.pow_succ]), trivial⟩, by simp [intOf]; omega⟩
              · have nI : ¬ (j : Int) < (n : Int) - 1 := by omega
                clear hj0 hj hx1 hj1 hjn hn0 HM
                go_wp2_with fail
                all_goals refine bodyPost_ret (v := .bool true) (by simp [results, Tryz.results6]) rfl ?_
                all_goals exact ⟨rfl, HB5.out⟩)
  · have e2 := passW_zero hok
    obtain ⟨P2, hP2⟩ : ∃ y, y = (passW b f).2 := ⟨_, rfl⟩
    obtain ⟨F1, hF1⟩ : ∃ y, y = (fanW b).1 := ⟨_, rfl⟩
    obtain ⟨F2, hF2⟩ : ∃ y, y = (fanW b).2 := ⟨_, rfl⟩
    rw [e2, ← hP2] at h3
    rw [← hF1, ← hF2] at h1
    rw [← hP2] at hok
    have hok2 : (P2 == 0) = false := by simpa using hok
    have H1 := hide h1
    have H3 := hide h3
    clear h1 h3 e2 hP2 hF1 hF2
    by_cases hF : F2 = 0
    · subst hF
      go_enter Tryz.func6, Tryz.ntmps6
      go_wp2_with (first
        | (go_at_call 23; refine Calls.mono H5.out ?_; rintro e w5 ⟨rfl, hb5⟩; have HB5 := hide hb5; clear hb5)
        | (go_at_call 19; refine (H1.out _).mono ?_; rintro e w1 ⟨rfl, ew⟩; obtain rfl : w5 = w1 := ew.symm)
        | (go_at_call 21; refine (H3.out _).mono ?_; rintro e w1 ⟨rfl, ew⟩; obtain rfl : w5 = w1 := ew.symm))
      all_goals refine bodyPost_ret (v := .bool true) (by simp [results, Tryz.results6]) rfl ?_
      all_goals exact ⟨rfl, HB5.out⟩
    · have hF2 : (F2 == 0) = false := by simpa using hF
      go_enter Tryz.func6, Tryz.ntmps6
      go_wp2_with (first
        | (go_at_call 23; refine Calls.mono H5.out ?_; rintro e w5 ⟨rfl, hb5⟩; have HB5 := hide hb5; clear hb5)
        | (go_at_call 19; refine (H1.out _).mono ?_; rintro e w1 ⟨rfl, ew⟩; obtain rfl : w5 = w1 := ew.symm)
        | (go_at_call 21; refine (H3.out _).mono ?_; rintro e w1 ⟨rfl, ew⟩; obtain rfl : w5 = w1 := ew.symm))
      all_goals refine bodyPost_ret (v := .bool true) (by simp [results, Tryz.results6]) rfl ?_
      all_goals exact ⟨rfl, HB5.out⟩
end Go.Proofs.YtmopegpkoedgbaaGreatDoor
