/- The law WorldTells, walked (printed by gen_wlg.py). -/
import Derived.Test.YtmbonieeapbpoaaGreatDoorM27
namespace Go.Proofs.YtmbonieeapbpoaaGreatDoor
open Go.RowKit Go.Sort

theorem makeD_empty (n : Int) : (makeD n).1.exts = [] ∧ (makeD n).1.waits = [] := by
  unfold makeD
  split
  · exact ⟨rfl, rfl⟩
  · exact ⟨rfl, rfl⟩
theorem makeW_empty (s n : Int) : (makeW s n).1.exts = [] ∧ (makeW s n).1.waits = [] := by
  unfold makeW
  split
  · exact ⟨rfl, rfl⟩
  · split
    · exact ⟨rfl, rfl⟩
    · exact makeD_empty s
set_option maxRecDepth 100000 in
set_option maxHeartbeats 16000000 in
theorem worldTells_any (V : Value) (d : Dsk) (b size n : Int) (w : World) (hv : WvC w w.heap.size V d b) (hz : SzD d) :
    Calls Tryz.prog 3 #[V, .int .i64 size, .int .i64 n] w fun e w' => e = .returned (.bool true) ∧ Below w.heap.size w w' := by
  have hfi := fun W (h : Below w.heap.size w W) => files_any V d b W ((hv.r.below h).more h.size) hz
  have hrf := fun W (h : Below w.heap.size w W) => rfiles_any V d b W ((hv.below h).more h.size) hz
  have hck := fun W (h : Below w.heap.size w W) => wcheck_any V d b W ((hv.r.below h).more h.size) hz
  have hrc := fun W (h : Below w.heap.size w W) => rwcheck_any V d b W ((hv.below h).more h.size) hz
  have hmk := fun W => wmake_any size n W
  have hrm := fun W => rwmake_any size n W
  obtain ⟨he1, he2⟩ := makeW_empty size n
  obtain ⟨⟨dm, bm, zm⟩, hm⟩ : ∃ m, m = makeW size n := ⟨_, rfl⟩
  rw [← hm] at hmk hrm he1 he2
  dsimp only at hmk hrm he1 he2
  have hfl : (filesW d b).1.length ≤ 1000000000 := by
    unfold filesW
    split
    · show (namesD d).length ≤ _
      unfold namesD
      exact Nat.le_trans (List.length_filter_le _ _) (by rw [List.length_map]; exact hz.exts)
    · exact Nat.zero_le _
  obtain ⟨⟨fs, fz⟩, hf⟩ : ∃ f, f = filesW d b := ⟨_, rfl⟩
  rw [← hf] at hfi hrf hfl
  dsimp only at hfi hrf hfl
  obtain ⟨z, hze⟩ : ∃ z, z = worldE d b := ⟨_, rfl⟩
  rw [← hze] at hck hrc
  obtain ⟨AE, cE, AW, cW, rfl, hE, hW, hcE⟩ := hv
  obtain ⟨W0, hW0⟩ : ∃ W0, W0 = w.alloc (.cells #[.int .i64 d.size, .slice AE d.exts.length cE, .slice AW d.waits.length cW, .int .i64 d.fuse, .bool d.down, .int .i64 b] 27) := ⟨_, rfl⟩
  have hb0 : Below w.heap.size w W0 := by rw [hW0]; exact ba1 _ _
  have k0 : Bk W0 w.heap.size 27 #[.int .i64 d.size, .slice AE d.exts.length cE, .slice AW d.waits.length cW, .int .i64 d.fuse, .bool d.down, .int .i64 b] := by rw [hW0]; exact Bk.new _ _ _
  have p0 := k0.cell 0
  have p1 := k0.cell 1
  have p2 := k0.cell 2
  have p3 := k0.cell 3
  have p4 := k0.cell 4
  have p5 := k0.cell 5
  have lp := k0.lt
  have HFi := hide hfi
  have HRf := hide hrf
  have HCk := hide hck
  have HRc := hide hrc
  have HMk := hide hmk
  have HRm := hide hrm
  have HE1 := hide he1
  have HE2 := hide he2
  have HW0 := hide (show w.alloc (.cells #[.int .i64 d.size, .slice AE d.exts.length cE, .slice AW d.waits.length cW, .int .i64 d.fuse, .bool d.down, .int .i64 b] 27) = W0 from hW0.symm)
  have HB0 := hide hb0
  have HK0 := hide k0
  have HFl := hide hfl
  clear hfi hrf hck hrc hmk hrm he1 he2 hm hf hze hE hW hcE hW0 hb0 k0 hfl hz
  go_enter Tryz.func3, Tryz.ntmps3
  go_upto_region 1 with fail
  rw [HW0.out]
  go_upto_region 2 with (go_at_call 5; refine Calls.mono (HFi.out _ HB0.out) ?_; rintro e w1 ⟨⟨L1, rfl, ho1⟩, hb1⟩; obtain ⟨A1, c1, rfl⟩ := own_formk ho1; have k1 := HK0.out.keep hb1; have x0 := k1.cell 0; have x1 := k1.cell 1; have x2 := k1.cell 2; have x3 := k1.cell 3; have x4 := k1.cell 4; have x5 := k1.cell 5; have lx := k1.lt; have HK1 := hide k1; have HO1 := hide ho1; have HB1 := hide (HB0.out.trans (hb1.mono HB0.out.size)); clear hb1 k1 ho1)
  clear p0 p1 p2 p3 p4 p5 lp
  go_upto_region 3 with (go_at_call 6; refine Calls.mono (HRf.out _ HB1.out) ?_; rintro e w2 ⟨⟨L2, rfl, ho2⟩, hb2⟩; obtain ⟨A2, c2, rfl⟩ := own_formk ho2; have HK2 := hide (HK1.out.keep hb2); have HO2 := hide (own_keep HO1.out hb2); have HP2 := hide ho2; have HB2 := hide (HB1.out.trans (hb2.mono HB1.out.size)); clear hb2 ho2)
  clear x0 x1 x2 x3 x4 x5 lx
  go_upto_region 4 with (go_at_call 7; refine Calls.mono (HMk.out _) ?_; rintro e w3 ⟨⟨V3, rfl, hq3⟩, hb3⟩; obtain ⟨AE3, cE3, AW3, cW3, rfl, _, _⟩ := hq3; rw [HE1.out, HE2.out, List.length_nil, List.length_nil]; have HK3 := hide (HK2.out.keep hb3); have HO3 := hide (own_keep HO2.out hb3); have HP3 := hide (own_keep HP2.out hb3); have HB3 := hide (HB2.out.trans (hb3.mono HB2.out.size)); clear hb3)
  obtain ⟨W4, hW4⟩ : ∃ W4, W4 = w3.alloc (.cells #[.int .i64 dm.size, .slice AE3 0 cE3, .slice AW3 0 cW3, .int .i64 dm.fuse, .bool dm.down, .int .i64 bm] 27) := ⟨_, rfl⟩
  rw [← hW4]
  have hb4 : Below w3.heap.size w3 W4 := by rw [hW4]; exact ba1 _ _
  have kx4 : Bk W4 w3.heap.size 27 #[.int .i64 dm.size, .slice AE3 0 cE3, .slice AW3 0 cW3, .int .i64 dm.fuse, .bool dm.down, .int .i64 bm] := by rw [hW4]; exact Bk.new _ _ _
  have HKX4 := hide kx4
  have HK4 := hide (HK3.out.keep hb4)
  have HO4 := hide (own_keep HO3.out hb4)
  have HP4 := hide (own_keep HP3.out hb4)
  have HB4 := hide (HB3.out.trans (hb4.mono HB3.out.size))
  clear hb4 kx4 hW4 HK3 HO3 HP3 HB3
  go_upto_region 5 with (go_at_call 8; refine Calls.mono (HRm.out _) ?_; rintro e w5 ⟨⟨V5, rfl, hq5⟩, hb5⟩; obtain ⟨AE5, cE5, AW5, cW5, rfl, _, _⟩ := hq5; rw [HE1.out, HE2.out, List.length_nil, List.length_nil]; have HK5 := hide (HK4.out.keep hb5); have HKX5 := hide (HKX4.out.keep hb5); have HO5 := hide (own_keep HO4.out hb5); have HP5 := hide (own_keep HP4.out hb5); have HB5 := hide (HB4.out.trans (hb5.mono HB4.out.size)); clear hb5)
  obtain ⟨W6, hW6⟩ : ∃ W6, W6 = w5.alloc (.cells #[.int .i64 dm.size, .slice AE5 0 cE5, .slice AW5 0 cW5, .int .i64 dm.fuse, .bool dm.down, .int .i64 bm] 27) := ⟨_, rfl⟩
  rw [← hW6]
  have hb6 : Below w5.heap.size w5 W6 := by rw [hW6]; exact ba1 _ _
  have ky6 : Bk W6 w5.heap.size 27 #[.int .i64 dm.size, .slice AE5 0 cE5, .slice AW5 0 cW5, .int .i64 dm.fuse, .bool dm.down, .int .i64 bm] := by rw [hW6]; exact Bk.new _ _ _
  have k6 := HK5.out.keep hb6
  have kx6 := HKX5.out.keep hb6
  have HO6 := hide (own_rdk (own_keep HO5.out hb6))
  have HP6 := hide (own_rdk (own_keep HP5.out hb6))
  have HB6 := hide (HB5.out.trans (hb6.mono HB5.out.size))
  have hmx : Tryz.prog.follows .mixedOrders = true := by kernel_rfl
  have cl := fun (dd : Nat) (os : Array Obj) => Calls.regrown_of (w := W6) (d := dd) (os := os) (lives29_any (grow (redrawn W6 dd) os))
  have cs := fun (dd : Nat) (os : Array Obj) => Calls.regrown_of (w := W6) (d := dd) (os := os) (samenames_any A1 A2 c1 c2 fs (grow (redrawn W6 dd) os) ((HO6.out.below (below_regrown W6 dd os)).more (below_regrown W6 dd os).size) ((HP6.out.below (below_regrown W6 dd os)).more (below_regrown W6 dd os).size) HFl.out)
  have cm := fun (dd : Nat) (os : Array Obj) => Calls.regrown_of (w := W6) (d := dd) (os := os) (rwsame0_any dm.size dm.fuse bm dm.down AE3 AE5 AW3 AW5 cE3 cE5 cW3 cW5 (grow (redrawn W6 dd) os))
  have cc := fun (dd : Nat) (os : Array Obj) => Calls.regrown_of (w := W6) (d := dd) (os := os) (HCk.out (grow (redrawn W6 dd) os) (HB6.out.trans ((below_regrown W6 dd os).mono HB6.out.size)))
  have cr := fun (dd : Nat) (os : Array Obj) => Calls.regrown_of (w := W6) (d := dd) (os := os) (HRc.out (grow (redrawn W6 dd) os) (HB6.out.trans ((below_regrown W6 dd os).mono HB6.out.size)))
  have CL := hide cl
  have CS := hide cs
  have CM := hide cm
  have CC := hide cc
  have CR := hide cr
  have m0 := cell_regrown (show W6.cell? ⟨w.heap.size, 0, none⟩ = some _ from k6.cell 0)
  have n0 := cell_regrown (show W6.cell? ⟨w3.heap.size, 0, none⟩ = some _ from kx6.cell 0)
  have q0 := cell_regrown (show W6.cell? ⟨w5.heap.size, 0, none⟩ = some _ from ky6.cell 0)
  have m1 := cell_regrown (show W6.cell? ⟨w.heap.size, 1, none⟩ = some _ from k6.cell 1)
  have n1 := cell_regrown (show W6.cell? ⟨w3.heap.size, 1, none⟩ = some _ from kx6.cell 1)
  have q1 := cell_regrown (show W6.cell? ⟨w5.heap.size, 1, none⟩ = some _ from ky6.cell 1)
  have m2 := cell_regrown (show W6.cell? ⟨w.heap.size, 2, none⟩ = some _ from k6.cell 2)
  have n2 := cell_regrown (show W6.cell? ⟨w3.heap.size, 2, none⟩ = some _ from kx6.cell 2)
  have q2 := cell_regrown (show W6.cell? ⟨w5.heap.size, 2, none⟩ = some _ from ky6.cell 2)
  have m3 := cell_regrown (show W6.cell? ⟨w.heap.size, 3, none⟩ = some _ from k6.cell 3)
  have n3 := cell_regrown (show W6.cell? ⟨w3.heap.size, 3, none⟩ = some _ from kx6.cell 3)
  have q3 := cell_regrown (show W6.cell? ⟨w5.heap.size, 3, none⟩ = some _ from ky6.cell 3)
  have m4 := cell_regrown (show W6.cell? ⟨w.heap.size, 4, none⟩ = some _ from k6.cell 4)
  have n4 := cell_regrown (show W6.cell? ⟨w3.heap.size, 4, none⟩ = some _ from kx6.cell 4)
  have q4 := cell_regrown (show W6.cell? ⟨w5.heap.size, 4, none⟩ = some _ from ky6.cell 4)
  have m5 := cell_regrown (show W6.cell? ⟨w.heap.size, 5, none⟩ = some _ from k6.cell 5)
  have n5 := cell_regrown (show W6.cell? ⟨w3.heap.size, 5, none⟩ = some _ from kx6.cell 5)
  have q5 := cell_regrown (show W6.cell? ⟨w5.heap.size, 5, none⟩ = some _ from ky6.cell 5)
  clear cl cs cm cc cr hb6 ky6 k6 kx6 hW6 HK5 HKX5 HO5 HP5 HB5
  refine wp_region_quiet_below hmx (by kernel_rfl) ?_
  repeat (quiet_step (first | with_reducible exact CL.out _ _ | with_reducible exact CS.out _ _ | with_reducible exact CM.out _ _ | with_reducible exact CC.out _ _ | with_reducible exact CR.out _ _))
  refine wpQuiet_nil ?_
  intro w7 hw'
  obtain ⟨⟨dq, osq⟩, hw''⟩ := hw'
  have hb7 := below_regrown W6 dq osq
  rw [← show w7 = grow (redrawn W6 dq) osq from hw''] at hb7
  have HB7 := hide (HB6.out.trans (hb7.mono HB6.out.size))
  clear hw'' hb7
  go_wp2_with fail
  go_ret
  exact ⟨by simp, HB7.out⟩
#print axioms worldTells_any
end Go.Proofs.YtmbonieeapbpoaaGreatDoor
