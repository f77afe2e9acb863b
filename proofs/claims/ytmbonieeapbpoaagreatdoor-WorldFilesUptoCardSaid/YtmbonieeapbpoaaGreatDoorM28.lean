/- Lemmas for the row: WlJ. -/
import Derived.Test.YtmbonieeapbpoaaGreatDoorM27
set_option linter.unusedVariables false
set_option linter.unusedSimpArgs false
/- Walk: world.Do at a crash (printed by gen_wlj.py). -/
namespace Go.Proofs.YtmbonieeapbpoaaGreatDoor
open Go.RowKit

theorem world_check {d : Dsk} {b : Int} (h : worldE d b = 0) : checkB d = true := by
  unfold worldE at h
  cases hc : checkB d with
  | true => rfl
  | false => rw [hc] at h; simp at h
set_option maxRecDepth 100000 in
set_option maxHeartbeats 8000000 in
theorem do_crash (V : Value) (d : Dsk) (b : Int) (kp : List Bool) (A : Option Addr) (c : Nat) (w : World) (hv : WvR w w.heap.size V d b) (hz : SzD d) (hw : worldE d b = 0) (hkr : Rd w w.heap.size A (kp.map .bool)) (hkl : kp.length ≤ 100000000) :
    Calls Tryz.prog 16 #[V, .agg #[.int .u8 10, .string ⟨#[]⟩, .string ⟨#[]⟩, .string ⟨#[]⟩, .int .i64 0, .slice A kp.length c]] w fun e w' => (∃ V', e = .returned (.tuple #[V', .string ⟨#[]⟩, .int .i64 0]) ∧ WvQ w' V' (crashD kp d) b) ∧ Below w.heap.size w w' := by
  have HCb := hide (world_check hw)
  have HKr := hide hkr
  clear hkr
  have hck := fun W (h : Below w.heap.size w W) => wcheck_any V d b W ((hv.below h).more h.size) hz
  have how := fun W (h : Below w.heap.size w W) => wown_any V d b W ((hv.below h).more h.size) hz
  rw [hw] at hck
  have hrt := fun W => wright_any 10 ⟨#[]⟩ ⟨#[]⟩ ⟨#[]⟩ 0 kp A c W (by first | omega | decide) (by decide) (by first | omega | decide) (by first | omega | decide)
  have hus := fun W => users_any 10 ⟨#[]⟩ ⟨#[]⟩ ⟨#[]⟩ 0 kp A (kp.length) c W
  have hr1 : rightS ⟨10, ⟨#[]⟩, ⟨#[]⟩, ⟨#[]⟩, 0, kp⟩ = true := by unfold rightS hasNm hasTo hasN; rfl
  have hu1 : usersB ⟨10, ⟨#[]⟩, ⟨#[]⟩, ⟨#[]⟩, 0, kp⟩ = true := rfl
  rw [hr1] at hrt
  rw [hu1] at hus
  obtain ⟨AE, cE, AW, cW, rfl, hE, hW⟩ := hv
  obtain ⟨W0, hW0⟩ : ∃ W0, W0 = ((w.alloc (.cells #[.int .i64 d.size, .slice AE d.exts.length cE, .slice AW d.waits.length cW, .int .i64 d.fuse, .bool d.down, .int .i64 b] 27)).alloc (.cells #[.int .u8 10, .string ⟨#[]⟩, .string ⟨#[]⟩, .string ⟨#[]⟩, .int .i64 0, .slice A kp.length c] 46)).alloc (.cells #[.int .i64 0, .slice none 0 0, .slice none 0 0, .int .i64 0, .bool false, .int .i64 0] 27) := ⟨_, rfl⟩
  have hb0 : Below w.heap.size w W0 := by rw [hW0]; exact btrans (ba2 _ _ _) (ba1 _ _)
  have k0 : Bk W0 w.heap.size 27 #[.int .i64 d.size, .slice AE d.exts.length cE, .slice AW d.waits.length cW, .int .i64 d.fuse, .bool d.down, .int .i64 b] := by rw [hW0]; exact ((Bk.new _ _ _).alloc _).alloc _
  have k1 : Bk W0 (w.heap.size + 1) 46 #[.int .u8 10, .string ⟨#[]⟩, .string ⟨#[]⟩, .string ⟨#[]⟩, .int .i64 0, .slice A kp.length c] := by rw [hW0]; exact (Bk.new1 _ _ _ _).alloc _
  have k2 : Bk W0 (w.heap.size + 1 + 1) 27 #[.int .i64 0, .slice none 0 0, .slice none 0 0, .int .i64 0, .bool false, .int .i64 0] := by rw [hW0]; exact Bk.new2 _ _ _ _ _
  have p0 := k0.cell 0
  have p1 := k0.cell 1
  have p2 := k0.cell 2
  have p3 := k0.cell 3
  have p4 := k0.cell 4
  have p5 := k0.cell 5
  have lp := k0.lt
  have HCk := hide (hck W0 hb0)
  have HOw := hide how
  have HRt := hide (show ∀ W, Calls Tryz.prog 28 #[.agg #[.int .u8 10, .string ⟨#[]⟩, .string ⟨#[]⟩, .string ⟨#[]⟩, .int .i64 0, .slice A kp.length c]] W fun e w' => e = .returned (.bool true) ∧ Below W.heap.size W w' from hrt)
  have HUs := hide (show ∀ W, Calls Tryz.prog 29 #[.agg #[.int .u8 10, .string ⟨#[]⟩, .string ⟨#[]⟩, .string ⟨#[]⟩, .int .i64 0, .slice A kp.length c]] W fun e w' => e = .returned (.bool true) ∧ Below W.heap.size W w' from hus)
  have HW0 := hide hW0
  have HB0 := hide hb0
  have HK0 := hide k0
  have HK1 := hide k1
  have HK2 := hide k2
  have HZ := hide hz
  clear hck how hrt hus hr1 hu1 hE hW hW0 hb0 k0 k1 k2 hz hw
  go_enter Tryz.func16, Tryz.ntmps16
  go_upto_region 5 with (first
    | (have hx := HB1; clear hx; go_at_call 27; refine Calls.mono (HOw.out _ HB1.out) ?_; rintro e w2 ⟨⟨V2, rfl, hq2⟩, hb2⟩; obtain ⟨AE2, cE2, AW2, cW2, rfl, h1, h2⟩ := hq2; have m0 := HM0.out.keep hb2; have m1 := HM1.out.keep hb2; have m2 := HM2.out.keep hb2; have x0 := m0.cell 0; have x1 := m0.cell 1; have x2 := m0.cell 2; have x3 := m0.cell 3; have x4 := m0.cell 4; have x5 := m0.cell 5; have fx0 := m0.free 0; have fx1 := m0.free 1; have fx2 := m0.free 2; have fx3 := m0.free 3; have fx4 := m0.free 4; have fx5 := m0.free 5; have lx := m0.lt; have HQ2 := hide (show WvQ w2 (.agg #[.int .i64 d.size, .slice AE2 d.exts.length cE2, .slice AW2 d.waits.length cW2, .int .i64 d.fuse, .bool d.down, .int .i64 b]) d b from ⟨AE2, cE2, AW2, cW2, rfl, h1, h2⟩); have HN0 := hide m0; have HN1 := hide m1; have HN2 := hide m2; have HB2 := hide (HB1.out.trans (hb2.mono HB1.out.size)); clear hb2 m0 m1 m2 h1 h2)
    | (go_at_call 12; rw [← HW0.out]; refine Calls.mono HCk.out ?_; rintro e w1 ⟨rfl, hb1⟩; have m0 := HK0.out.keep hb1; have y0 := m0.cell 0; have y1 := m0.cell 1; have y2 := m0.cell 2; have y3 := m0.cell 3; have y4 := m0.cell 4; have y5 := m0.cell 5; have ly := m0.lt; have HM0 := hide m0; have HM1 := hide (HK1.out.keep hb1); have HM2 := hide (HK2.out.keep hb1); have HB1 := hide (HB0.out.trans (hb1.mono HB0.out.size)); clear hb1 m0))
  obtain ⟨W3, hW3⟩ : ∃ W3, W3 = put6 w2 w.heap.size (.int .i64 d.size) (.slice AE2 d.exts.length cE2) (.slice AW2 d.waits.length cW2) (.int .i64 d.fuse) (.bool d.down) (.int .i64 b) := ⟨_, rfl⟩
  rw [show ((((((w2.setCell ⟨w.heap.size, 0, none⟩ (.int .i64 d.size)).setCell ⟨w.heap.size, 1, none⟩ (.slice AE2 d.exts.length cE2)).setCell ⟨w.heap.size, 2, none⟩ (.slice AW2 d.waits.length cW2)).setCell ⟨w.heap.size, 3, none⟩ (.int .i64 d.fuse)).setCell ⟨w.heap.size, 4, none⟩ (.bool d.down)).setCell ⟨w.heap.size, 5, none⟩ (.int .i64 b)) = W3 from hW3.symm]
  have q0 := put6_bk HN0.out (.int .i64 d.size) (.slice AE2 d.exts.length cE2) (.slice AW2 d.waits.length cW2) (.int .i64 d.fuse) (.bool d.down) (.int .i64 b)
  have q1 := HN1.out.fr (put6_fr w2 w.heap.size (.int .i64 d.size) (.slice AE2 d.exts.length cE2) (.slice AW2 d.waits.length cW2) (.int .i64 d.fuse) (.bool d.down) (.int .i64 b)) (by omega)
  have q2 := HN2.out.fr (put6_fr w2 w.heap.size (.int .i64 d.size) (.slice AE2 d.exts.length cE2) (.slice AW2 d.waits.length cW2) (.int .i64 d.fuse) (.bool d.down) (.int .i64 b)) (by omega)
  have qq := HQ2.out.put6 HN0.out (.int .i64 d.size) (.slice AE2 d.exts.length cE2) (.slice AW2 d.waits.length cW2) (.int .i64 d.fuse) (.bool d.down) (.int .i64 b)
  have qb := put6_below HB2.out (Nat.le_refl _) (.int .i64 d.size) (.slice AE2 d.exts.length cE2) (.slice AW2 d.waits.length cW2) (.int .i64 d.fuse) (.bool d.down) (.int .i64 b)
  rw [← hW3] at q0 q1 q2 qq qb
  have s0 := q1.cell 0
  have s1 := q1.cell 1
  have s2 := q1.cell 2
  have s3 := q1.cell 3
  have s4 := q1.cell 4
  have s5 := q1.cell 5
  have ls := q1.lt
  have HP0 := hide q0
  have HP1 := hide q1
  have HP2 := hide q2
  have HQ := hide qq
  have HB := hide qb
  clear q0 q1 q2 qq qb hW3 HN0 HN1 HN2 HQ2 HB2 x0 x1 x2 x3 x4 x5 fx0 fx1 fx2 fx3 fx4 fx5
  go_upto_region 11 with (first
    | (go_at_call 28; refine Calls.mono (HRt.out _) ?_; rintro e w4 ⟨rfl, hb4⟩; have m1 := HP1.out.keep hb4; have s0 := m1.cell 0; have s1 := m1.cell 1; have s2 := m1.cell 2; have s3 := m1.cell 3; have s4 := m1.cell 4; have s5 := m1.cell 5; have ls := m1.lt; have HP0 := hide (HP0.out.keep hb4); have HP1 := hide m1; have HP2 := hide (HP2.out.keep hb4); have HQ := hide (HQ.out.keep hb4); have HB := hide (HB.out.trans (hb4.mono HB.out.size)); clear hb4 m1)
    | (go_at_call 29; refine Calls.mono (HUs.out _) ?_; rintro e w5 ⟨rfl, hb5⟩; have m0 := HP0.out.keep hb5; have m1 := HP1.out.keep hb5; have x0 := m0.cell 0; have x1 := m0.cell 1; have x2 := m0.cell 2; have x3 := m0.cell 3; have x4 := m0.cell 4; have x5 := m0.cell 5; have s0 := m1.cell 0; have s1 := m1.cell 1; have s2 := m1.cell 2; have s3 := m1.cell 3; have s4 := m1.cell 4; have s5 := m1.cell 5; have ls := m1.lt; have lx := m0.lt; have HP0 := hide m0; have HP1 := hide m1; have HP2 := hide (HP2.out.keep hb5); have HQ := hide (HQ.out.keep hb5); have HB := hide (HB.out.trans (hb5.mono HB.out.size)); clear hb5 m0 m1))
  obtain ⟨W6, hW6⟩ : ∃ W6, W6 = w5.alloc (.cells #[.int .i64 d.size, .slice AE2 d.exts.length cE2, .slice AW2 d.waits.length cW2, .int .i64 d.fuse, .bool d.down] 25) := ⟨_, rfl⟩
  rw [← hW6]
  have hb6 : Below w5.heap.size w5 W6 := by rw [hW6]; exact ba1 _ _
  have k6 : Bk W6 w5.heap.size 25 #[.int .i64 d.size, .slice AE2 d.exts.length cE2, .slice AW2 d.waits.length cW2, .int .i64 d.fuse, .bool d.down] := by rw [hW6]; exact Bk.new _ _ _
  have q0 := HP0.out.keep hb6
  have q1 := HP1.out.keep hb6
  have q2 := HP2.out.keep hb6
  have qq := HQ.out.keep hb6
  have hdv : Dv W6 W6.heap.size (.agg #[.int .i64 d.size, .slice AE2 d.exts.length cE2, .slice AW2 d.waits.length cW2, .int .i64 d.fuse, .bool d.down]) d := by
    obtain ⟨a1, a2, a3, a4, e, h1, h2⟩ := qq.r
    cases e
    exact ⟨_, _, _, _, rfl, h1, h2⟩
  have s0 := q1.cell 0
  have s1 := q1.cell 1
  have s2 := q1.cell 2
  have s3 := q1.cell 3
  have s4 := q1.cell 4
  have s5 := q1.cell 5
  have x0 := q0.cell 0
  have x1 := q0.cell 1
  have x2 := q0.cell 2
  have x3 := q0.cell 3
  have x4 := q0.cell 4
  have x5 := q0.cell 5
  have fx0 := q0.free 0
  have fx1 := q0.free 1
  have fx2 := q0.free 2
  have fx3 := q0.free 3
  have fx4 := q0.free 4
  have fx5 := q0.free 5
  have r0 := q2.cell 0
  have r1 := q2.cell 1
  have r2 := q2.cell 2
  have r3 := q2.cell 3
  have r4 := q2.cell 4
  have r5 := q2.cell 5
  have fr0 := q2.free 0
  have fr1 := q2.free 1
  have fr2 := q2.free 2
  have fr3 := q2.free 3
  have fr4 := q2.free 4
  have fr5 := q2.free 5
  have t0 := k6.cell 0
  have t1 := k6.cell 1
  have t2 := k6.cell 2
  have t3 := k6.cell 3
  have t4 := k6.cell 4
  have l0 := q0.lt
  have l1 := q1.lt
  have l2 := q2.lt
  have l6 := k6.lt
  have HDv := hide hdv
  have HP0 := hide q0
  have HP1 := hide q1
  have HP2 := hide q2
  have HQ := hide qq
  have HB := hide (HB.out.trans (hb6.mono HB.out.size))
  clear q0 q1 q2 qq hdv k6 hb6 hW6
  have hfr := crash_any _ d kp A c W6 HDv.out HZ.out HCb.out ((HKr.out.below HB.out).more HB.out.size)
  obtain ⟨d7, hd7⟩ : ∃ d7, d7 = crashD kp d := ⟨_, rfl⟩
  rw [← hd7] at hfr
  have HFr := hide hfr
  have HD7 := hide hd7
  clear hfr hd7
  go_upto_region 29 with (go_at_call 37; refine Calls.mono HFr.out ?_; rintro e w7 ⟨⟨v7, rfl, hq7⟩, hb7⟩; obtain ⟨AE7, cE7, AW7, cW7, rfl, h1, h2⟩ := hq7; have q0 := HP0.out.keep hb7; have q2 := HP2.out.keep hb7; have x0 := q0.cell 0; have x1 := q0.cell 1; have x2 := q0.cell 2; have x3 := q0.cell 3; have x4 := q0.cell 4; have x5 := q0.cell 5; have fx0 := q0.free 0; have fx1 := q0.free 1; have fx2 := q0.free 2; have fx3 := q0.free 3; have fx4 := q0.free 4; have fx5 := q0.free 5; have l0 := q0.lt; have H1 := hide h1; have H2 := hide h2; have HP0 := hide q0; have HP2 := hide q2; have HB := hide (HB.out.trans (hb7.mono HB.out.size)); clear q0 q2 hb7 h1 h2)
  obtain ⟨W8, hW8⟩ : ∃ W8, W8 = pt5 w7 w.heap.size (.int .i64 d7.size) (.slice AE7 d7.exts.length cE7) (.slice AW7 d7.waits.length cW7) (.int .i64 d7.fuse) (.bool d7.down) := ⟨_, rfl⟩
  rw [show (((((w7.setCell ⟨w.heap.size, 0, none⟩ (.int .i64 d7.size)).setCell ⟨w.heap.size, 1, none⟩ (.slice AE7 d7.exts.length cE7)).setCell ⟨w.heap.size, 2, none⟩ (.slice AW7 d7.waits.length cW7)).setCell ⟨w.heap.size, 3, none⟩ (.int .i64 d7.fuse)).setCell ⟨w.heap.size, 4, none⟩ (.bool d7.down)) = W8 from hW8.symm]
  have q0 := pt5_bk6 HP0.out (.int .i64 d7.size) (.slice AE7 d7.exts.length cE7) (.slice AW7 d7.waits.length cW7) (.int .i64 d7.fuse) (.bool d7.down)
  have q2 := HP2.out.fr (pt5_fr w7 w.heap.size (.int .i64 d7.size) (.slice AE7 d7.exts.length cE7) (.slice AW7 d7.waits.length cW7) (.int .i64 d7.fuse) (.bool d7.down)) (by omega)
  have qq : WvQ (pt5 w7 w.heap.size (.int .i64 d7.size) (.slice AE7 d7.exts.length cE7) (.slice AW7 d7.waits.length cW7) (.int .i64 d7.fuse) (.bool d7.down)) (.agg #[.int .i64 d7.size, .slice AE7 d7.exts.length cE7, .slice AW7 d7.waits.length cW7, .int .i64 d7.fuse, .bool d7.down, .int .i64 b]) d7 b := ⟨AE7, cE7, AW7, cW7, rfl, own_pt5 H1.out (fun e => own_ne H1.out HP0.out (by decide) e.symm) _ _ _ _ _, own_pt5 H2.out (fun e => own_ne H2.out HP0.out (by decide) e.symm) _ _ _ _ _⟩
  have qb : Below w.heap.size w (pt5 w7 w.heap.size (.int .i64 d7.size) (.slice AE7 d7.exts.length cE7) (.slice AW7 d7.waits.length cW7) (.int .i64 d7.fuse) (.bool d7.down)) := HB.out.trans ((pt5_fr w7 w.heap.size _ _ _ _ _).toBelowB (fun k hk => by subst hk; exact Nat.le_refl _) HB.out.size)
  rw [← hW8] at q0 q2 qq qb
  clear hW8 x0 x1 x2 x3 x4 x5 fx0 fx1 fx2 fx3 fx4 fx5 r0 r1 r2 r3 r4 r5 fr0 fr1 fr2 fr3 fr4 fr5 t0 t1 t2 t3 t4 s0 s1 s2 s3 s4 s5
  have x0 := q0.cell 0
  have x1 := q0.cell 1
  have x2 := q0.cell 2
  have x3 := q0.cell 3
  have x4 := q0.cell 4
  have x5 := q0.cell 5
  have r0 := q2.cell 0
  have r1 := q2.cell 1
  have r2 := q2.cell 2
  have r3 := q2.cell 3
  have r4 := q2.cell 4
  have r5 := q2.cell 5
  have fr0 := q2.free 0
  have fr1 := q2.free 1
  have fr2 := q2.free 2
  have fr3 := q2.free 3
  have fr4 := q2.free 4
  have fr5 := q2.free 5
  have l0 := q0.lt
  have l2 := q2.lt
  have HE2 := hide q2
  have HQ := hide qq
  have HB := hide qb
  clear q0 q2 qq qb HP0 HP1 HP2
  go_wp2_with fail
  refine bodyPost_ret (v := .tuple #[.agg #[_, _, _, _, _, _], .string ⟨#[]⟩, .int .i64 0]) (res_w3 Tryz.results16 (put6_bk HE2.out _ _ _ _ _ _) rfl rfl rfl) rfl ?_
  rw [← HD7.out]
  exact ⟨⟨_, rfl, HQ.out.put6 HE2.out _ _ _ _ _ _⟩, put6_below HB.out (by omega) _ _ _ _ _ _⟩
end Go.Proofs.YtmbonieeapbpoaaGreatDoor
