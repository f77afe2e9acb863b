/- Lemmas for the row: FsR, FsS, FsT, FsU, FsW. -/
import Derived.Test.YtahnnebpadbopaaGreatDoorM04
import Derived.Test.YtahnnebpadbopaaGreatDoorM21
import Derived.Test.YtahnnebpadbopaaGreatDoorM22
import Derived.Test.YtahnnebpadbopaaGreatDoorM23
import Derived.Test.YtahnnebpadbopaaGreatDoorM24
import Derived.Test.YtahnnebpadbopaaGreatDoorM26
set_option linter.unusedVariables false
/- Walks: disk.Make, world.budget, Check, own, Make. -/
namespace Go.Proofs.YtahnnebpadbopaaGreatDoor
open Go.RowKit

set_option maxRecDepth 100000 in
set_option maxHeartbeats 4000000 in
theorem dmake_any (n : Int) (w : World) : Calls Tryz.prog 65 #[.int .i64 n] w fun e w' => (∃ v, e = .returned (.tuple #[v, .int .i64 (makeD n).2]) ∧ DvQ w' v (makeD n).1) ∧ Below w.heap.size w w' := by
  have hq : ∀ (W : World) (d : Dsk), d.exts = [] → d.waits = [] → DvQ W (.agg #[.int .i64 d.size, .slice none 0 0, .slice none 0 0, .int .i64 d.fuse, .bool d.down]) d := fun W d h1 h2 => ⟨none, 0, none, 0, by rw [h1, h2]; rfl, by rw [h1]; exact World.ownsRow_nil _ _ _ _, by rw [h2]; exact World.ownsRow_nil _ _ _ _⟩
  have HQ := hide hq
  clear hq
  by_cases h1 : n < 0
  · have HM := hide (show makeD n = (zeroD, 1) by unfold makeD; rw [if_pos (.inl h1)])
    go_enter Tryz.func65, Tryz.ntmps65
    go_wp2_with fail
    refine bodyPost_ret (v := .tuple #[_, .int .i64 _]) (res_d2 Tryz.results65 (Bk.new _ _ _) rfl rfl) rfl ?_
    exact ⟨⟨_, by rw [HM.out], by rw [HM.out]; exact HQ.out _ zeroD rfl rfl⟩, ba1 _ _⟩
  · by_cases h2 : 16384 < n
    · have HM := hide (show makeD n = (zeroD, 1) by unfold makeD; rw [if_pos (.inr h2)])
      go_enter Tryz.func65, Tryz.ntmps65
      go_wp2_with fail
      refine bodyPost_ret (v := .tuple #[_, .int .i64 _]) (res_d2 Tryz.results65 (Bk.new _ _ _) rfl rfl) rfl ?_
      exact ⟨⟨_, by rw [HM.out], by rw [HM.out]; exact HQ.out _ zeroD rfl rfl⟩, ba1 _ _⟩
    · have HM := hide (show makeD n = (⟨n, [], [], -1, false⟩, 0) by unfold makeD; rw [if_neg (by omega)])
      go_enter Tryz.func65, Tryz.ntmps65
      go_wp2_with fail
      refine bodyPost_ret (v := .tuple #[_, .int .i64 _]) (res_d2 Tryz.results65 (Bk.new _ _ _) rfl rfl) rfl ?_
      exact ⟨⟨_, by rw [HM.out], by rw [HM.out]; exact HQ.out _ ⟨n, [], [], -1, false⟩ rfl rfl⟩, ba1 _ _⟩
theorem wbudget_any (n : Int) (w : World) : Calls Tryz.prog 66 #[.int .i64 n] w fun e w' => e = .returned (.int .i64 (budgetE n)) ∧ w' = w := by
  by_cases h1 : n < 24
  · have hb : budgetE n = 9 := by unfold budgetE; rw [if_pos h1]
    rw [hb]
    clear hb
    go_enter Tryz.func66, Tryz.ntmps66
    go_wp2_with fail
    go_ret
    exact ⟨rfl, rfl⟩
  · by_cases h2 : 256 < n
    · have hb : budgetE n = 1 := by unfold budgetE; rw [if_neg h1, if_pos h2]
      rw [hb]
      clear hb
      go_enter Tryz.func66, Tryz.ntmps66
      go_wp2_with fail
      go_ret
      exact ⟨rfl, rfl⟩
    · have hb : budgetE n = 0 := by unfold budgetE; rw [if_neg h1, if_neg h2]
      rw [hb]
      clear hb
      go_enter Tryz.func66, Tryz.ntmps66
      go_wp2_with fail
      go_ret
      exact ⟨rfl, rfl⟩
/-- A world's value, whose rows are read. -/
def WvR (w : World) (B : Nat) (V : Value) (d : Dsk) (b : Int) : Prop := ∃ AE cE AW cW, V = .agg #[.int .i64 d.size, .slice AE d.exts.length cE, .slice AW d.waits.length cW, .int .i64 d.fuse, .bool d.down, .int .i64 b] ∧ Rd w B AE (flatE d.exts) ∧ Rd w B AW (flatW d.waits)
/-- A world's value, whose rows are its own. -/
def WvQ (w : World) (V : Value) (d : Dsk) (b : Int) : Prop := ∃ AE cE AW cW, V = .agg #[.int .i64 d.size, .slice AE d.exts.length cE, .slice AW d.waits.length cW, .int .i64 d.fuse, .bool d.down, .int .i64 b] ∧ w.ownsRow 0 156 2 (.slice AE d.exts.length cE) d.exts.length (flatE d.exts) ∧ w.ownsRow 0 217 3 (.slice AW d.waits.length cW) d.waits.length (flatW d.waits)
theorem WvQ.r {w : World} {V : Value} {d : Dsk} {b : Int} (h : WvQ w V d b) : WvR w w.heap.size V d b := by
  obtain ⟨AE, cE, AW, cW, rfl, h1, h2⟩ := h
  exact ⟨AE, cE, AW, cW, rfl, own_rdk h1, own_rdk h2⟩
theorem WvQ.keep {w w' : World} {V : Value} {d : Dsk} {b : Int} (h : WvQ w V d b) (hb : Below w.heap.size w w') : WvQ w' V d b := by
  obtain ⟨AE, cE, AW, cW, rfl, h1, h2⟩ := h
  exact ⟨AE, cE, AW, cW, rfl, own_keep h1 hb, own_keep h2 hb⟩
theorem WvR.below {w w' : World} {B : Nat} {V : Value} {d : Dsk} {b : Int} (h : WvR w B V d b) (hb : Below B w w') : WvR w' B V d b := by
  obtain ⟨AE, cE, AW, cW, rfl, h1, h2⟩ := h
  exact ⟨AE, cE, AW, cW, rfl, h1.below hb, h2.below hb⟩
theorem WvR.more {w : World} {B B' : Nat} {V : Value} {d : Dsk} {b : Int} (h : WvR w B V d b) (hB : B ≤ B') : WvR w B' V d b := by
  obtain ⟨AE, cE, AW, cW, rfl, h1, h2⟩ := h
  exact ⟨AE, cE, AW, cW, rfl, h1.more hB, h2.more hB⟩
set_option maxRecDepth 100000 in
set_option maxHeartbeats 4000000 in
theorem wcheck_any (V : Value) (d : Dsk) (b : Int) (w : World) (hv : WvR w w.heap.size V d b) (hz : SzD d) :
    Calls Tryz.prog 67 #[V] w fun e w' => e = .returned (.int .i64 (worldE d b)) ∧ Below w.heap.size w w' := by
  obtain ⟨AE, cE, AW, cW, rfl, hE, hW⟩ := hv
  have hck := fun (W : World) (h : Below w.heap.size w W) => check_disk (.agg #[.int .i64 d.size, .slice AE d.exts.length cE, .slice AW d.waits.length cW, .int .i64 d.fuse, .bool d.down]) d W ⟨AE, cE, AW, cW, rfl, (hE.below h).more h.size, (hW.below h).more h.size⟩ hz.exts hz.waits hz.ext hz.wait
  obtain ⟨W0, hW0⟩ : ∃ W0, W0 = w.alloc (.cells #[.int .i64 d.size, .slice AE d.exts.length cE, .slice AW d.waits.length cW, .int .i64 d.fuse, .bool d.down, .int .i64 b] 104) := ⟨_, rfl⟩
  have hb0 : Below w.heap.size w W0 := by rw [hW0]; exact ba1 _ _
  have kp0 : Bk W0 w.heap.size 104 #[.int .i64 d.size, .slice AE d.exts.length cE, .slice AW d.waits.length cW, .int .i64 d.fuse, .bool d.down, .int .i64 b] := by rw [hW0]; exact Bk.new _ _ _
  have p0 := kp0.cell 0
  have p1 := kp0.cell 1
  have p2 := kp0.cell 2
  have p3 := kp0.cell 3
  have p4 := kp0.cell 4
  have lp := kp0.lt
  obtain ⟨c, hc⟩ : ∃ c, c = checkD d := ⟨_, rfl⟩
  have hcc : worldE d b = if c ≠ 0 then 2 else if budgetE b ≠ 0 then 2 else 0 := by
    rw [hc]
    unfold worldE checkD budgetE
    by_cases h : checkB d = true
    · rw [if_pos h, h]
      by_cases h1 : b < 24
      · rw [if_pos h1, decide_eq_false (show ¬ 24 ≤ b by omega)]; simp
      · by_cases h2 : 256 < b
        · rw [if_neg h1, if_pos h2, decide_eq_false (show ¬ b ≤ 256 by omega)]; simp
        · rw [if_neg h1, if_neg h2, decide_eq_true (show b ≤ 256 by omega), decide_eq_true (show 24 ≤ b by omega)]; simp
    · rw [if_neg h]; simp [h]
  rw [← hc] at hck
  obtain ⟨B, hB⟩ : ∃ B, B = budgetE b := ⟨_, rfl⟩
  have hbu := fun W => wbudget_any b W
  rw [← hB] at hbu hcc
  have HCk := hide (hck W0 hb0)
  have HW0 := hide hW0
  have HB0 := hide hb0
  have HKp := hide kp0
  have HBu := hide hbu
  have HCc := hide hcc
  clear hE hW hck hW0 hb0 kp0 hbu hcc hc hB
  by_cases h1 : c = 0
  · by_cases h2 : B = 0
    · subst h1 h2
      have HRe := hide (show worldE d b = 0 by rw [HCc.out]; rfl)
      clear HCc
      go_enter Tryz.func67, Tryz.ntmps67
      go_wp2_with (first
        | (go_at_call 91; rw [← HW0.out]; refine Calls.mono HCk.out ?_; rintro e w1 ⟨rfl, hb1⟩; have k1 := HKp.out.keep hb1; have q5 := k1.cell 5; have HB1 := hide (HB0.out.trans (hb1.mono HB0.out.size)); clear hb1 k1)
        | (go_at_call 66; refine Calls.mono (HBu.out _) ?_; rintro e w2 ⟨rfl, ew⟩; obtain rfl : w1 = w2 := ew.symm))
      go_ret
      exact ⟨by rw [HRe.out]; rfl, HB1.out⟩
    · subst h1
      have HRe := hide (show worldE d b = 2 by rw [HCc.out, if_neg (by simp), if_pos h2])
      have h2b : (B == 0) = false := by simpa using h2
      clear HCc
      go_enter Tryz.func67, Tryz.ntmps67
      go_wp2_with (first
        | (go_at_call 91; rw [← HW0.out]; refine Calls.mono HCk.out ?_; rintro e w1 ⟨rfl, hb1⟩; have k1 := HKp.out.keep hb1; have q5 := k1.cell 5; have HB1 := hide (HB0.out.trans (hb1.mono HB0.out.size)); clear hb1 k1)
        | (go_at_call 66; refine Calls.mono (HBu.out _) ?_; rintro e w2 ⟨rfl, ew⟩; obtain rfl : w1 = w2 := ew.symm))
      go_ret
      exact ⟨by rw [HRe.out]; rfl, HB1.out⟩
  · have HRe := hide (show worldE d b = 2 by rw [HCc.out, if_pos h1])
    have h1b : (c == 0) = false := by simpa using h1
    clear HCc
    go_enter Tryz.func67, Tryz.ntmps67
    go_wp2_with (first
      | (go_at_call 91; rw [← HW0.out]; refine Calls.mono HCk.out ?_; rintro e w1 ⟨rfl, hb1⟩; have HB1 := hide (HB0.out.trans (hb1.mono HB0.out.size)); clear hb1))
    go_ret
    exact ⟨by rw [HRe.out]; rfl, HB1.out⟩
set_option maxRecDepth 100000 in
/-- A world in a cell of its own. -/
theorem res_w1 {fn : Func} {p : Tmp} {W : World} {g : Nat} {c0 c1 c2 c3 c4 c5 : Value} {tmps : Array Value} (hf : fn.results = #[.cell p 104]) (h : Bk W g 104 #[c0, c1, c2, c3, c4, c5]) (h2 : tmps.getD p undef = .pointer (some ⟨g, 0, none⟩)) :
    (results fn tmps).run Tryz.prog W = .ok (.agg #[c0, c1, c2, c3, c4, c5]) W := by
  have d0 : W.cell? ⟨g, 0, none⟩ = some c0 := h.cell 0
  have d1 : W.cell? ⟨g, 1, none⟩ = some c1 := h.cell 1
  have d2 : W.cell? ⟨g, 2, none⟩ = some c2 := h.cell 2
  have d3 : W.cell? ⟨g, 3, none⟩ = some c3 := h.cell 3
  have d4 : W.cell? ⟨g, 4, none⟩ = some c4 := h.cell 4
  have d5 : W.cell? ⟨g, 5, none⟩ = some c5 := h.cell 5
  rw [Array.getD_eq_getD_getElem?] at h2
  simp [results, hf, go_sem, h2, asAddr, d0, d1, d2, d3, d4, d5]
set_option maxRecDepth 100000 in
theorem res_w2 {fn : Func} {p q : Tmp} {W : World} {g : Nat} {c0 c1 c2 c3 c4 c5 : Value} {z : Int} {tmps : Array Value} (hf : fn.results = #[.cell p 104, .tmp q]) (h : Bk W g 104 #[c0, c1, c2, c3, c4, c5]) (h2 : tmps.getD p undef = .pointer (some ⟨g, 0, none⟩)) (h3 : tmps.getD q undef = .int .i64 z) :
    (results fn tmps).run Tryz.prog W = .ok (.tuple #[.agg #[c0, c1, c2, c3, c4, c5], .int .i64 z]) W := by
  have d0 : W.cell? ⟨g, 0, none⟩ = some c0 := h.cell 0
  have d1 : W.cell? ⟨g, 1, none⟩ = some c1 := h.cell 1
  have d2 : W.cell? ⟨g, 2, none⟩ = some c2 := h.cell 2
  have d3 : W.cell? ⟨g, 3, none⟩ = some c3 := h.cell 3
  have d4 : W.cell? ⟨g, 4, none⟩ = some c4 := h.cell 4
  have d5 : W.cell? ⟨g, 5, none⟩ = some c5 := h.cell 5
  rw [Array.getD_eq_getD_getElem?] at h2 h3
  simp [results, hf, go_sem, h2, h3, asAddr, d0, d1, d2, d3, d4, d5]
set_option maxRecDepth 100000 in
theorem res_w3 {fn : Func} {p q r : Tmp} {W : World} {g : Nat} {c0 c1 c2 c3 c4 c5 : Value} {t : ByteArray} {z : Int} {tmps : Array Value} (hf : fn.results = #[.cell p 104, .tmp q, .tmp r]) (h : Bk W g 104 #[c0, c1, c2, c3, c4, c5]) (h2 : tmps.getD p undef = .pointer (some ⟨g, 0, none⟩)) (h3 : tmps.getD q undef = .string t) (h4 : tmps.getD r undef = .int .i64 z) :
    (results fn tmps).run Tryz.prog W = .ok (.tuple #[.agg #[c0, c1, c2, c3, c4, c5], .string t, .int .i64 z]) W := by
  have d0 : W.cell? ⟨g, 0, none⟩ = some c0 := h.cell 0
  have d1 : W.cell? ⟨g, 1, none⟩ = some c1 := h.cell 1
  have d2 : W.cell? ⟨g, 2, none⟩ = some c2 := h.cell 2
  have d3 : W.cell? ⟨g, 3, none⟩ = some c3 := h.cell 3
  have d4 : W.cell? ⟨g, 4, none⟩ = some c4 := h.cell 4
  have d5 : W.cell? ⟨g, 5, none⟩ = some c5 := h.cell 5
  rw [Array.getD_eq_getD_getElem?] at h2 h3 h4
  simp [results, hf, go_sem, h2, h3, h4, asAddr, d0, d1, d2, d3, d4, d5]
theorem WvQ.put6 {w : World} {V : Value} {d : Dsk} {b : Int} {g : Nat} {z : Array Value} (h : WvQ w V d b) (hr : Bk w g 104 z) (a0 a1 a2 a3 a4 a5 : Value) : WvQ (put6 w g a0 a1 a2 a3 a4 a5) V d b := by
  obtain ⟨AE, cE, AW, cW, rfl, h1, h2⟩ := h
  exact ⟨AE, cE, AW, cW, rfl, own_put6 h1 (fun e => own_ne h1 hr (by decide) e.symm) _ _ _ _ _ _, own_put6 h2 (fun e => own_ne h2 hr (by decide) e.symm) _ _ _ _ _ _⟩
theorem WvQ.pt5 {w : World} {V : Value} {d : Dsk} {b : Int} {g : Nat} {z : Array Value} (h : WvQ w V d b) (hr : Bk w g 104 z) (a0 a1 a2 a3 a4 : Value) : WvQ (pt5 w g a0 a1 a2 a3 a4) V d b := by
  obtain ⟨AE, cE, AW, cW, rfl, h1, h2⟩ := h
  exact ⟨AE, cE, AW, cW, rfl, own_pt5 h1 (fun e => own_ne h1 hr (by decide) e.symm) _ _ _ _ _, own_pt5 h2 (fun e => own_ne h2 hr (by decide) e.symm) _ _ _ _ _⟩
theorem pt5_bk6 {w : World} {b : Nat} {t : TypeId} {z0 z1 z2 z3 z4 z5 : Value} (h : Bk w b t #[z0, z1, z2, z3, z4, z5]) (a0 a1 a2 a3 a4 : Value) : Bk (pt5 w b a0 a1 a2 a3 a4) b t #[a0, a1, a2, a3, a4, z5] := ((((h.set_ 0 a0).set_ 1 a1).set_ 2 a2).set_ 3 a3).set_ 4 a4
set_option maxRecDepth 100000 in
set_option maxHeartbeats 4000000 in
theorem wown_any (V : Value) (d : Dsk) (b : Int) (w : World) (hv : WvR w w.heap.size V d b) (hz : SzD d) :
    Calls Tryz.prog 68 #[V] w fun e w' => (∃ V', e = .returned V' ∧ WvQ w' V' d b) ∧ Below w.heap.size w w' := by
  obtain ⟨AE, cE, AW, cW, rfl, hE, hW⟩ := hv
  have hck := fun (W : World) (h : Below w.heap.size w W) => own_any (.agg #[.int .i64 d.size, .slice AE d.exts.length cE, .slice AW d.waits.length cW, .int .i64 d.fuse, .bool d.down]) d W ⟨AE, cE, AW, cW, rfl, (hE.below h).more h.size, (hW.below h).more h.size⟩ hz.exts hz.waits
  obtain ⟨W0, hW0⟩ : ∃ W0, W0 = (w.alloc (.cells #[.int .i64 d.size, .slice AE d.exts.length cE, .slice AW d.waits.length cW, .int .i64 d.fuse, .bool d.down, .int .i64 b] 104)).alloc (.cells #[.int .i64 0, .slice none 0 0, .slice none 0 0, .int .i64 0, .bool false, .int .i64 0] 104) := ⟨_, rfl⟩
  have hb0 : Below w.heap.size w W0 := by rw [hW0]; exact ba2 _ _ _
  have kp0 : Bk W0 w.heap.size 104 #[.int .i64 d.size, .slice AE d.exts.length cE, .slice AW d.waits.length cW, .int .i64 d.fuse, .bool d.down, .int .i64 b] := by rw [hW0]; exact (Bk.new _ _ _).alloc _
  have kr0 : Bk W0 (w.heap.size + 1) 104 #[.int .i64 0, .slice none 0 0, .slice none 0 0, .int .i64 0, .bool false, .int .i64 0] := by rw [hW0]; exact Bk.new1 _ _ _ _
  have p0 := kp0.cell 0
  have p1 := kp0.cell 1
  have p2 := kp0.cell 2
  have p3 := kp0.cell 3
  have p4 := kp0.cell 4
  have lp := kp0.lt
  have HCk := hide (hck W0 hb0)
  have HW0 := hide hW0
  have HB0 := hide hb0
  have HKp := hide kp0
  have HKr := hide kr0
  clear hE hW hck hW0 hb0 kp0 kr0
  go_enter Tryz.func68, Tryz.ntmps68
  go_upto_region 2 with (go_at_call 92; rw [← HW0.out]; refine Calls.mono HCk.out ?_; rintro e w1 ⟨⟨A, c, A', c', rfl, h1, h2⟩, hb1⟩; have k1 := HKp.out.keep hb1; have k2 := HKr.out.keep hb1; have f0 := k1.free 0; have f1 := k1.free 1; have f2 := k1.free 2; have f3 := k1.free 3; have f4 := k1.free 4; have x0 := k1.cell 0; have x1 := k1.cell 1; have x2 := k1.cell 2; have x3 := k1.cell 3; have x4 := k1.cell 4; have l1 := k1.lt; have HQ := hide (show WvQ w1 (.agg #[.int .i64 d.size, .slice A d.exts.length c, .slice A' d.waits.length c', .int .i64 d.fuse, .bool d.down, .int .i64 b]) d b from ⟨A, c, A', c', rfl, own_base h1 (fun _ _ => Nat.zero_le _), own_base h2 (fun _ _ => Nat.zero_le _)⟩); have HK1 := hide k1; have HK2 := hide k2; have HB1 := hide (HB0.out.trans (hb1.mono HB0.out.size)); clear hb1 k1 k2 h1 h2)
  obtain ⟨W5, hW5⟩ : ∃ W5, W5 = pt5 w1 w.heap.size (.int .i64 d.size) (.slice A d.exts.length c) (.slice A' d.waits.length c') (.int .i64 d.fuse) (.bool d.down) := ⟨_, rfl⟩
  rw [show (((((w1.setCell ⟨w.heap.size, 0, none⟩ (.int .i64 d.size)).setCell ⟨w.heap.size, 1, none⟩ (.slice A d.exts.length c)).setCell ⟨w.heap.size, 2, none⟩ (.slice A' d.waits.length c')).setCell ⟨w.heap.size, 3, none⟩ (.int .i64 d.fuse)).setCell ⟨w.heap.size, 4, none⟩ (.bool d.down)) = W5 from hW5.symm]
  have k5 := pt5_bk6 HK1.out (.int .i64 d.size) (.slice A d.exts.length c) (.slice A' d.waits.length c') (.int .i64 d.fuse) (.bool d.down)
  have k6 := HK2.out.fr (pt5_fr w1 w.heap.size (.int .i64 d.size) (.slice A d.exts.length c) (.slice A' d.waits.length c') (.int .i64 d.fuse) (.bool d.down)) (by omega)
  have hq5 := HQ.out.pt5 HK1.out (.int .i64 d.size) (.slice A d.exts.length c) (.slice A' d.waits.length c') (.int .i64 d.fuse) (.bool d.down)
  have hb5 : Below w.heap.size w (pt5 w1 w.heap.size (.int .i64 d.size) (.slice A d.exts.length c) (.slice A' d.waits.length c') (.int .i64 d.fuse) (.bool d.down)) := HB1.out.trans ((pt5_fr w1 w.heap.size _ _ _ _ _).toBelowB (fun k hk => by subst hk; exact Nat.le_refl _) HB1.out.size)
  rw [← hW5] at k5 k6 hq5 hb5
  have y0 := k5.cell 0
  have y1 := k5.cell 1
  have y2 := k5.cell 2
  have y3 := k5.cell 3
  have y4 := k5.cell 4
  have y5 := k5.cell 5
  have z0 := k6.cell 0
  have z1 := k6.cell 1
  have z2 := k6.cell 2
  have z3 := k6.cell 3
  have z4 := k6.cell 4
  have z5 := k6.cell 5
  have g0 := k6.free 0
  have g1 := k6.free 1
  have g2 := k6.free 2
  have g3 := k6.free 3
  have g4 := k6.free 4
  have g5 := k6.free 5
  have l5 := k5.lt
  have l6 := k6.lt
  have HK6 := hide k6
  have HQ5 := hide hq5
  have HB5 := hide hb5
  clear k5 k6 hq5 hb5 hW5 x0 x1 x2 x3 x4 f0 f1 f2 f3 f4
  go_wp2_with fail
  refine bodyPost_ret (v := .agg #[_, _, _, _, _, _]) (res_w1 Tryz.results68 (put6_bk HK6.out _ _ _ _ _ _) rfl) rfl ?_
  exact ⟨⟨_, rfl, HQ5.out.put6 HK6.out _ _ _ _ _ _⟩, put6_below HB5.out (by omega) _ _ _ _ _ _⟩
set_option maxRecDepth 100000 in
set_option maxHeartbeats 4000000 in
theorem wmake_any (size n : Int) (w : World) :
    Calls Tryz.prog 49 #[.int .i64 size, .int .i64 n] w fun e w' => (∃ V, e = .returned (.tuple #[V, .int .i64 (makeW size n).2.2]) ∧ WvQ w' V (makeW size n).1 (makeW size n).2.1) ∧ Below w.heap.size w w' := by
  obtain ⟨W0, hW0⟩ : ∃ W0, W0 = w.alloc (.cells #[.int .i64 0, .slice none 0 0, .slice none 0 0, .int .i64 0, .bool false, .int .i64 0] 104) := ⟨_, rfl⟩
  have hb0 : Below w.heap.size w W0 := by rw [hW0]; exact ba1 _ _
  have kr0 : Bk W0 w.heap.size 104 #[.int .i64 0, .slice none 0 0, .slice none 0 0, .int .i64 0, .bool false, .int .i64 0] := by rw [hW0]; exact Bk.new _ _ _
  have hm := dmake_any size W0
  obtain ⟨dm, zm, hdm⟩ : ∃ dm zm, makeD size = (dm, zm) := ⟨_, _, rfl⟩
  rw [hdm] at hm
  have hbu := fun W => wbudget_any n W
  obtain ⟨B, hB⟩ : ∃ B, B = budgetE n := ⟨_, rfl⟩
  rw [← hB] at hbu
  have hmw : makeW size n = if zm ≠ 0 then (zeroD, 0, zm) else if B ≠ 0 then (zeroD, 0, B) else (dm, n, 0) := by unfold makeW; rw [hdm, ← hB]
  have HM := hide hm
  have HBu := hide hbu
  have HMw := hide hmw
  have HW0 := hide hW0
  have HB0 := hide hb0
  have HR0 := hide kr0
  have hzQ : ∀ W, WvQ W (.agg #[.int .i64 0, .slice none 0 0, .slice none 0 0, .int .i64 0, .bool false, .int .i64 0]) zeroD 0 := fun W => ⟨none, 0, none, 0, rfl, World.ownsRow_nil _ _ _ _, World.ownsRow_nil _ _ _ _⟩
  have HZq := hide hzQ
  clear hm hbu hmw hW0 hb0 kr0 hdm hB hzQ
  go_enter Tryz.func49, Tryz.ntmps49
  go_upto_region 2 with (go_at_call 65; rw [← HW0.out]; refine Calls.mono HM.out ?_; rintro e w1 ⟨⟨v, rfl, hdq⟩, hb1⟩; obtain ⟨AE, cE, AW, cW, rfl, h1, h2⟩ := hdq; have HR1 := hide (HR0.out.keep hb1); have H1 := hide h1; have H2 := hide h2; have HB1 := hide (HB0.out.trans (hb1.mono HB0.out.size)); clear hb1 h1 h2)
  obtain ⟨W2, hW2⟩ : ∃ W2, W2 = w1.alloc (.cells #[.int .i64 dm.size, .slice AE dm.exts.length cE, .slice AW dm.waits.length cW, .int .i64 dm.fuse, .bool dm.down] 102) := ⟨_, rfl⟩
  rw [← hW2]
  have kx : Bk W2 w1.heap.size 102 #[.int .i64 dm.size, .slice AE dm.exts.length cE, .slice AW dm.waits.length cW, .int .i64 dm.fuse, .bool dm.down] := by rw [hW2]; exact Bk.new _ _ _
  have kr2 := HR1.out.keep (show Below w1.heap.size w1 W2 by rw [hW2]; exact ba1 _ _)
  have hb2 : Below w.heap.size w W2 := by rw [hW2]; exact HB1.out.trans ((ba1 _ _).mono HB1.out.size)
  have hq2 : WvQ W2 (.agg #[.int .i64 dm.size, .slice AE dm.exts.length cE, .slice AW dm.waits.length cW, .int .i64 dm.fuse, .bool dm.down, .int .i64 n]) dm n := ⟨AE, cE, AW, cW, rfl, own_keep H1.out (by rw [hW2]; exact ba1 _ _), own_keep H2.out (by rw [hW2]; exact ba1 _ _)⟩
  have y0 := kx.cell 0
  have y1 := kx.cell 1
  have y2 := kx.cell 2
  have y3 := kx.cell 3
  have y4 := kx.cell 4
  have ly := kx.lt
  have z0 := kr2.cell 0
  have z1 := kr2.cell 1
  have z2 := kr2.cell 2
  have z3 := kr2.cell 3
  have z4 := kr2.cell 4
  have z5 := kr2.cell 5
  have g0 := kr2.free 0
  have g1 := kr2.free 1
  have g2 := kr2.free 2
  have g3 := kr2.free 3
  have g4 := kr2.free 4
  have g5 := kr2.free 5
  have lr := kr2.lt
  have HR2 := hide kr2
  have HB2 := hide hb2
  have HQ2 := hide hq2
  clear hW2 kx kr2 hb2 hq2 H1 H2
  by_cases h1 : zm = 0
  · subst h1
    by_cases h2 : B = 0
    · subst h2
      have HRe := hide (show makeW size n = (dm, n, 0) by rw [HMw.out]; rfl)
      clear HMw
      go_wp2_with (go_at_call 66; refine Calls.mono (HBu.out _) ?_; rintro e w3 ⟨rfl, ew⟩; obtain rfl : W2 = w3 := ew.symm)
      refine bodyPost_ret (v := .tuple #[.agg #[_, _, _, _, _, _], .int .i64 0]) (res_w2 Tryz.results49 (put6_bk HR2.out _ _ _ _ _ _) rfl rfl) rfl ?_
      exact ⟨⟨_, by rw [HRe.out], by rw [HRe.out]; exact HQ2.out.put6 HR2.out _ _ _ _ _ _⟩, put6_below HB2.out (Nat.le_refl _) _ _ _ _ _ _⟩
    · have h2b : (B == 0) = false := by simpa using h2
      have HRe := hide (show makeW size n = (zeroD, 0, B) by rw [HMw.out, if_neg (by simp), if_pos h2])
      clear HMw
      go_wp2_with (go_at_call 66; refine Calls.mono (HBu.out _) ?_; rintro e w3 ⟨rfl, ew⟩; obtain rfl : W2 = w3 := ew.symm)
      refine bodyPost_ret (v := .tuple #[.agg #[_, _, _, _, _, _], .int .i64 B]) (res_w2 Tryz.results49 (put6_bk HR2.out _ _ _ _ _ _) rfl rfl) rfl ?_
      exact ⟨⟨_, by rw [HRe.out], by rw [HRe.out]; exact HZq.out _⟩, put6_below HB2.out (Nat.le_refl _) _ _ _ _ _ _⟩
  · have h1b : (zm == 0) = false := by simpa using h1
    have HRe := hide (show makeW size n = (zeroD, 0, zm) by rw [HMw.out, if_pos h1])
    clear HMw
    go_wp2_with fail
    refine bodyPost_ret (v := .tuple #[.agg #[_, _, _, _, _, _], .int .i64 zm]) (res_w2 Tryz.results49 (put6_bk HR2.out _ _ _ _ _ _) rfl rfl) rfl ?_
    exact ⟨⟨_, by rw [HRe.out], by rw [HRe.out]; exact HZq.out _⟩, put6_below HB2.out (Nat.le_refl _) _ _ _ _ _ _⟩
end Go.Proofs.YtahnnebpadbopaaGreatDoor
/- Walks: phases.may, May; world.users. -/
namespace Go.Proofs.YtahnnebpadbopaaGreatDoor
open Go.RowKit

set_option maxRecDepth 100000 in
set_option maxHeartbeats 4000000 in
theorem may1_any (s : ByteArray) (w : World) : Calls Tryz.prog 168 #[.string s] w fun e w' => e = .returned (.bool (!mayB s)) ∧ w' = w := by
  by_cases h0 : s.size = 0
  · have hE : s.toList.isEmpty = true := by rw [isEmpty_str, decide_eq_true h0]
    have hm : mayB s = false := by unfold mayB namedB; simp [h0]
    rw [hm]
    clear hm h0
    go_enter Tryz.func168, Tryz.ntmps168
    go_wp2_with fail
    go_ret
    exact ⟨rfl, rfl⟩
  · have hE : s.toList.isEmpty = false := by rw [isEmpty_str, decide_eq_false h0]
    by_cases h16 : (16 : Int) < (s.size : Int)
    · have hm : mayB s = false := by unfold mayB namedB; rw [decide_eq_false (show ¬ s.size ≤ 16 by omega)]; simp
      rw [hm]
      clear hm h0
      go_enter Tryz.func168, Tryz.ntmps168
      go_wp2_with fail
      go_ret
      exact ⟨rfl, rfl⟩
    · obtain ⟨m, hm1⟩ : ∃ m, s.size = m + 1 := ⟨s.size - 1, by omega⟩
      have hml : m < s.size := by omega
      have h0l : 0 < s.size := by omega
      have q0 : (s[0]'h0l).toNat = byt s 0 := byt_of s h0l
      have q1 : (s[m]'hml).toNat = byt s m := byt_of s hml
      have hw : IntKind.i64.wrap ((s.size : Int) - 1) = (m : Int) := by rw [IntWalk.i64_in _ ⟨by omega, by omega⟩]; omega
      have hsz : (s.size : Int) - 1 = (m : Int) := by omega
      have hmb : mayB s = (decide (byt s 0 ≠ 61) && decide (byt s 0 ≠ 126) && decide (byt s m ≠ 0)) := by
        unfold mayB namedB
        rw [decide_eq_true (show 0 < s.size by omega), decide_eq_true (show s.size ≤ 16 by omega), show s.size - 1 = m by omega]
        rfl
      have HM := hide hmb
      obtain ⟨b0, hb0⟩ : ∃ b0, b0 = byt s 0 := ⟨_, rfl⟩
      obtain ⟨b1, hb1⟩ : ∃ b1, b1 = byt s m := ⟨_, rfl⟩
      rw [← hb0] at q0
      rw [← hb1] at q1
      have HM2 := hide (show mayB s = (decide (b0 ≠ 61) && decide (b0 ≠ 126) && decide (b1 ≠ 0)) by rw [HM.out, hb0, hb1])
      have hmi : (m : Int) < (s.size : Int) := by omega
      have HM1 := hide hm1
      clear hmb HM hb0 hb1 hm1 h0
      by_cases e1 : b0 = 61
      · have t1 : ((b0 : Int) == 61) = true := by subst e1; rfl
        have HR := hide (show mayB s = false by rw [HM2.out, e1]; rfl)
        clear e1 HM2
        go_enter Tryz.func168, Tryz.ntmps168
        go_wp2_with fail
        go_ret
        exact ⟨by rw [HR.out]; rfl, rfl⟩
      · have t1 : ((b0 : Int) == 61) = false := by rw [beq_eq_false_iff_ne]; omega
        by_cases e2 : b0 = 126
        · have t2 : ((b0 : Int) == 126) = true := by subst e2; rfl
          have HR := hide (show mayB s = false by rw [HM2.out, e2]; rfl)
          clear e1 e2 HM2
          go_enter Tryz.func168, Tryz.ntmps168
          go_wp2_with fail
          go_ret
          exact ⟨by rw [HR.out]; rfl, rfl⟩
        · have t2 : ((b0 : Int) == 126) = false := by rw [beq_eq_false_iff_ne]; omega
          by_cases e3 : b1 = 0
          · have t3 : ((b1 : Int) == 0) = true := by subst e3; rfl
            have HR := hide (show mayB s = false by rw [HM2.out, e3]; simp)
            clear e1 e2 e3 HM2
            go_enter Tryz.func168, Tryz.ntmps168
            go_wp2_with fail
            go_ret
            exact ⟨by rw [HR.out]; rfl, rfl⟩
          · have t3 : ((b1 : Int) == 0) = false := by rw [beq_eq_false_iff_ne]; omega
            have HR := hide (show mayB s = true by rw [HM2.out, decide_eq_true e1, decide_eq_true e2, decide_eq_true e3]; rfl)
            clear e1 e2 e3 HM2
            go_enter Tryz.func168, Tryz.ntmps168
            go_wp2_with fail
            go_ret
            exact ⟨by rw [HR.out]; rfl, rfl⟩
theorem index_may (A : Option Addr) (c : Nat) (xs : List ByteArray) (w : World) (hr : Rd w w.heap.size A (xs.map .string)) (hl : xs.length ≤ 1000000000) :
    Calls Tryz.prog 225 #[.slice A xs.length c, .func (.func 168) #[] #[]] w fun e w' => e = .returned (.int .i64 (idxI (fun s => !mayB s) xs)) ∧ Below w.heap.size w w' := by
  have hn := fun (s : ByteArray) (W : World) => may1_any s W
  have HN := hide hn
  have HR := hide hr
  clear hn hr
  go_enter Tryz.func225, Tryz.ntmps225
  go_wp2_with fail
  go_loopw [8] (fun i wr => ∃ k : Nat, i = .int .i64 k ∧ k ≤ xs.length ∧ wr = w ∧ Hid (∀ j y, j < k → xs[j]? = some y → (!mayB y) = false)) (fun i _ => xs.length - (intOf i).toNat)
  case atStart => exact ⟨0, rfl, by omega, rfl, hide (fun j y hj => by omega)⟩
  case round =>
    obtain ⟨k, rfl, hk, rfl, hinv⟩ := hrel
    by_cases hlt : k < xs.length
    · obtain ⟨x, hx⟩ : ∃ x, xs[k]? = some x := ⟨xs[k], by simp [hlt]⟩
      obtain ⟨b, o, rfl, _, hc⟩ := HR.out k (.string x) (by rw [List.getElem?_map, hx]; rfl)
      obtain ⟨t, ht⟩ : ∃ t, t = (!mayB x) := ⟨_, rfl⟩
      have ht1 := fun (W : World) => HN.out x W
      rw [← ht] at ht1
      have HT := hide ht1
      have HTe := hide ht
      have HX := hide hx
      clear ht1 ht hx
      cases t with
      | true =>
        go_wp2_with (go_at_call 168; refine (HT.out _).mono ?_; rintro e w1 ⟨rfl, rfl⟩)
        go_ret
        exact ⟨by rw [idxI_at hinv.out HX.out HTe.out.symm]; rfl, Below.refl _ _⟩
      | false =>
        go_wp2_with (go_at_call 168; refine (HT.out _).mono ?_; rintro e w1 ⟨rfl, rfl⟩)
        exact ⟨⟨k + 1, by simp, by omega, trivial, hide (findIdx_step hinv.out HX.out HTe.out.symm)⟩, by simp [intOf]; omega⟩
    · obtain rfl : k = xs.length := by omega
      go_wp2_with fail
      go_ret
      exact ⟨by rw [idxI_none hinv.out]; rfl, Below.refl _ _⟩
theorem contains_may (A : Option Addr) (c : Nat) (xs : List ByteArray) (w : World) (hr : Rd w w.heap.size A (xs.map .string)) (hl : xs.length ≤ 1000000000) :
    Calls Tryz.prog 167 #[.slice A xs.length c, .func (.func 168) #[] #[]] w fun e w' => e = .returned (.bool (!xs.all mayB)) ∧ Below w.heap.size w w' := by
  have hi := index_may A c xs w hr hl
  have hb : (decide ((0 : Int) ≤ idxI (fun s => !mayB s) xs)) = !xs.all mayB := by
    unfold idxI
    cases h : xs.findIdx? (fun s => !mayB s) with
    | none =>
      rw [List.findIdx?_eq_none_iff] at h
      have : xs.all mayB = true := List.all_eq_true.2 fun x hx => by simpa using h x hx
      rw [this]; rfl
    | some i =>
      obtain ⟨hk, h1, _⟩ := List.findIdx?_eq_some_iff_getElem.1 h
      have : xs.all mayB = false := by
        cases k : xs.all mayB with
        | false => rfl
        | true =>
          have := List.all_eq_true.1 k xs[i] (List.getElem_mem hk)
          rw [this] at h1; cases h1
      rw [this]
      show decide ((0 : Int) ≤ (i : Int)) = true
      exact decide_eq_true (by omega)
  obtain ⟨z, hz⟩ : ∃ z, z = idxI (fun s => !mayB s) xs := ⟨_, rfl⟩
  rw [← hz] at hi hb
  have HI := hide hi
  have HB := hide hb
  clear hi hb hz
  go_enter Tryz.func167, Tryz.ntmps167
  go_wp2_with (go_at_call 225; refine (HI.out).mono ?_; rintro e w1 ⟨rfl, hb1⟩)
  go_ret
  exact ⟨by rw [← HB.out]; rfl, hb1⟩
theorem may_any (A : Option Addr) (c : Nat) (xs : List ByteArray) (w : World) (hr : Rd w w.heap.size A (xs.map .string)) (hl : xs.length ≤ 1000000000) :
    Calls Tryz.prog 111 #[.slice A xs.length c] w fun e w' => e = .returned (.bool (xs.all mayB)) ∧ Below w.heap.size w w' := by
  have hi := contains_may A c xs w hr hl
  have HI := hide hi
  clear hi hr
  go_enter Tryz.func111, Tryz.ntmps111
  go_wp2_with (go_at_call 167; refine (HI.out).mono ?_; rintro e w1 ⟨rfl, hb1⟩)
  go_ret
  exact ⟨by simp, hb1⟩
theorem May_any (s : ByteArray) (w : World) : Calls Tryz.prog 80 #[.string s] w fun e w' => e = .returned (.bool (mayB s)) ∧ Below w.heap.size w w' := by
  have hm := may_any (some ⟨w.heap.size, 0, none⟩) 1 [s] (w.alloc (.cells #[.string s] 9)) (fun i u hu => by
    cases i with
    | zero => cases hu; exact ⟨w.heap.size, 0, rfl, by simp, by rw [Nat.add_zero]; exact (Bk.new w _ _).cell 0⟩
    | succ i => simp at hu) (by simp)
  have hm' := hide (show Calls Tryz.prog 111 #[.slice (some ⟨w.heap.size, 0, none⟩) 1 1] (w.alloc (.cells #[.string s] 9)) fun e w' => e = .returned (.bool (mayB s)) ∧ Below (w.alloc (.cells #[.string s] 9)).heap.size (w.alloc (.cells #[.string s] 9)) w' from by
    have := hm
    rw [show ([s].all mayB) = mayB s by simp] at this
    exact this)
  clear hm
  go_enter Tryz.func80, Tryz.ntmps80
  go_wp2_with (go_at_call 111; refine Calls.mono hm'.out ?_; rintro e w1 ⟨rfl, hb1⟩)
  go_ret
  exact ⟨rfl, btrans (ba1 _ _) hb1⟩
def usersB (st : Stp) : Bool := if st.kind = 1 ∨ st.kind = 3 then mayB st.nm else if st.kind = 6 then mayB st.to_ else true
set_option maxRecDepth 100000 in
theorem users_any (k : Nat) (nm to_ tx : ByteArray) (n : Int) (l : List Bool) (A : Option Addr) (m c : Nat) (w : World) : Calls Tryz.prog 69 #[.agg #[.int .u8 (k : Nat), .string nm, .string to_, .string tx, .int .i64 n, .slice A m c]] w fun e w' => e = .returned (.bool (usersB ⟨k, nm, to_, tx, n, l⟩)) ∧ Below w.heap.size w w' := by
  by_cases k1 : k = 1
  · subst k1
    rw [show usersB ⟨1, nm, to_, tx, n, l⟩ = mayB nm from rfl]
    go_enter Tryz.func69, Tryz.ntmps69
    go_wp2_with (go_at_call 80; refine Calls.mono (May_any _ _) ?_; rintro e w1 ⟨rfl, hb1⟩)
    go_ret
    exact ⟨rfl, btrans (ba1 _ _) hb1⟩
  · by_cases k3 : k = 3
    · subst k3
      rw [show usersB ⟨3, nm, to_, tx, n, l⟩ = mayB nm from rfl]
      go_enter Tryz.func69, Tryz.ntmps69
      go_wp2_with (go_at_call 80; refine Calls.mono (May_any _ _) ?_; rintro e w1 ⟨rfl, hb1⟩)
      go_ret
      exact ⟨rfl, btrans (ba1 _ _) hb1⟩
    · by_cases k6 : k = 6
      · subst k6
        rw [show usersB ⟨6, nm, to_, tx, n, l⟩ = mayB to_ from rfl]
        go_enter Tryz.func69, Tryz.ntmps69
        go_wp2_with (go_at_call 80; refine Calls.mono (May_any _ _) ?_; rintro e w1 ⟨rfl, hb1⟩)
        go_ret
        exact ⟨rfl, btrans (ba1 _ _) hb1⟩
      · have hu : usersB ⟨k, nm, to_, tx, n, l⟩ = true := by unfold usersB; rw [if_neg (show ¬ (k = 1 ∨ k = 3) by omega), if_neg (show ¬ k = 6 from k6)]
        rw [hu]
        have t1 : ((k : Int) == 1) = false := by rw [beq_eq_false_iff_ne]; omega
        have t3 : ((k : Int) == 3) = false := by rw [beq_eq_false_iff_ne]; omega
        have t6 : ((k : Int) == 6) = false := by rw [beq_eq_false_iff_ne]; omega
        clear hu k1 k3 k6
        go_enter Tryz.func69, Tryz.ntmps69
        go_wp2_with fail
        go_ret
        exact ⟨rfl, ba1 _ _⟩
end Go.Proofs.YtahnnebpadbopaaGreatDoor
/- Walks: world.Do at a put, and at a get (printed by gen_fst.py). -/
namespace Go.Proofs.YtahnnebpadbopaaGreatDoor
open Go.RowKit

theorem put6_fr (w : World) (b : Nat) (a0 a1 a2 a3 a4 a5 : Value) : Fr (fun k => k = b) w (put6 w b a0 a1 a2 a3 a4 a5) :=
  ((((((Fr.refl (fun k => k = b) w).setCell (p := ⟨b, 0, none⟩) (.inl rfl) a0).setCell (p := ⟨b, 1, none⟩) (.inl rfl) a1).setCell (p := ⟨b, 2, none⟩) (.inl rfl) a2).setCell (p := ⟨b, 3, none⟩) (.inl rfl) a3).setCell (p := ⟨b, 4, none⟩) (.inl rfl) a4).setCell (p := ⟨b, 5, none⟩) (.inl rfl) a5
set_option maxRecDepth 100000 in
set_option maxHeartbeats 8000000 in
theorem do_put (V : Value) (d : Dsk) (b : Int) (nm tx : ByteArray) (A : Option Addr) (c : Nat) (w : World) (hv : WvR w w.heap.size V d b) (hz : SzD d) (hw : worldE d b = 0) (hn : nm.size ≤ 1000000) (ht : tx.size ≤ 65536) (hm : mayB nm = true) :
    Calls Tryz.prog 50 #[V, .agg #[.int .u8 1, .string nm, .string ⟨#[]⟩, .string tx, .int .i64 0, .slice A 0 c]] w fun e w' => (∃ V', e = .returned (.tuple #[V', .string ⟨#[]⟩, .int .i64 (putD d nm 0 tx.size tx).2]) ∧ WvQ w' V' (putD d nm 0 tx.size tx).1 b) ∧ Below w.heap.size w w' := by
  obtain ⟨⟨d7, z7⟩, hp7⟩ : ∃ r, r = putD d nm 0 tx.size tx := ⟨_, rfl⟩
  rw [← hp7]
  have hck := fun W (h : Below w.heap.size w W) => wcheck_any V d b W ((hv.below h).more h.size) hz
  have how := fun W (h : Below w.heap.size w W) => wown_any V d b W ((hv.below h).more h.size) hz
  rw [hw] at hck
  have hrt := fun W => wright_any 1 nm ⟨#[]⟩ tx 0 [] A c W (by omega) (by decide) (by omega) (by decide)
  have hus := fun W => users_any 1 nm ⟨#[]⟩ tx 0 [] A 0 c W
  have hr1 : rightS ⟨1, nm, ⟨#[]⟩, tx, 0, []⟩ = true := by unfold rightS hasNm hasTo hasN; rfl
  have hu1 : usersB ⟨1, nm, ⟨#[]⟩, tx, 0, []⟩ = true := by unfold usersB; rw [if_pos (.inl rfl)]; exact hm
  rw [hr1] at hrt
  rw [hu1] at hus
  obtain ⟨AE, cE, AW, cW, rfl, hE, hW⟩ := hv
  obtain ⟨W0, hW0⟩ : ∃ W0, W0 = ((w.alloc (.cells #[.int .i64 d.size, .slice AE d.exts.length cE, .slice AW d.waits.length cW, .int .i64 d.fuse, .bool d.down, .int .i64 b] 104)).alloc (.cells #[.int .u8 1, .string nm, .string ⟨#[]⟩, .string tx, .int .i64 0, .slice A 0 c] 39)).alloc (.cells #[.int .i64 0, .slice none 0 0, .slice none 0 0, .int .i64 0, .bool false, .int .i64 0] 104) := ⟨_, rfl⟩
  have hb0 : Below w.heap.size w W0 := by rw [hW0]; exact btrans (ba2 _ _ _) (ba1 _ _)
  have k0 : Bk W0 w.heap.size 104 #[.int .i64 d.size, .slice AE d.exts.length cE, .slice AW d.waits.length cW, .int .i64 d.fuse, .bool d.down, .int .i64 b] := by rw [hW0]; exact ((Bk.new _ _ _).alloc _).alloc _
  have k1 : Bk W0 (w.heap.size + 1) 39 #[.int .u8 1, .string nm, .string ⟨#[]⟩, .string tx, .int .i64 0, .slice A 0 c] := by rw [hW0]; exact (Bk.new1 _ _ _ _).alloc _
  have k2 : Bk W0 (w.heap.size + 1 + 1) 104 #[.int .i64 0, .slice none 0 0, .slice none 0 0, .int .i64 0, .bool false, .int .i64 0] := by rw [hW0]; exact Bk.new2 _ _ _ _ _
  have p0 := k0.cell 0
  have p1 := k0.cell 1
  have p2 := k0.cell 2
  have p3 := k0.cell 3
  have p4 := k0.cell 4
  have p5 := k0.cell 5
  have lp := k0.lt
  have HCk := hide (hck W0 hb0)
  have HOw := hide how
  have HRt := hide (show ∀ W, Calls Tryz.prog 43 #[.agg #[.int .u8 1, .string nm, .string ⟨#[]⟩, .string tx, .int .i64 0, .slice A 0 c]] W fun e w' => e = .returned (.bool true) ∧ Below W.heap.size W w' from hrt)
  have HUs := hide (show ∀ W, Calls Tryz.prog 69 #[.agg #[.int .u8 1, .string nm, .string ⟨#[]⟩, .string tx, .int .i64 0, .slice A 0 c]] W fun e w' => e = .returned (.bool true) ∧ Below W.heap.size W w' from hus)
  have HW0 := hide hW0
  have HB0 := hide hb0
  have HK0 := hide k0
  have HK1 := hide k1
  have HK2 := hide k2
  have HZ := hide hz
  clear hck how hrt hus hr1 hu1 hE hW hW0 hb0 k0 k1 k2 hz hw hm
  go_enter Tryz.func50, Tryz.ntmps50
  go_upto_region 5 with (first
    | (have hx := HB1; clear hx; go_at_call 68; refine Calls.mono (HOw.out _ HB1.out) ?_; rintro e w2 ⟨⟨V2, rfl, hq2⟩, hb2⟩; obtain ⟨AE2, cE2, AW2, cW2, rfl, h1, h2⟩ := hq2; have m0 := HM0.out.keep hb2; have m1 := HM1.out.keep hb2; have m2 := HM2.out.keep hb2; have x0 := m0.cell 0; have x1 := m0.cell 1; have x2 := m0.cell 2; have x3 := m0.cell 3; have x4 := m0.cell 4; have x5 := m0.cell 5; have fx0 := m0.free 0; have fx1 := m0.free 1; have fx2 := m0.free 2; have fx3 := m0.free 3; have fx4 := m0.free 4; have fx5 := m0.free 5; have lx := m0.lt; have HQ2 := hide (show WvQ w2 (.agg #[.int .i64 d.size, .slice AE2 d.exts.length cE2, .slice AW2 d.waits.length cW2, .int .i64 d.fuse, .bool d.down, .int .i64 b]) d b from ⟨AE2, cE2, AW2, cW2, rfl, h1, h2⟩); have HN0 := hide m0; have HN1 := hide m1; have HN2 := hide m2; have HB2 := hide (HB1.out.trans (hb2.mono HB1.out.size)); clear hb2 m0 m1 m2 h1 h2)
    | (go_at_call 67; rw [← HW0.out]; refine Calls.mono HCk.out ?_; rintro e w1 ⟨rfl, hb1⟩; have m0 := HK0.out.keep hb1; have y0 := m0.cell 0; have y1 := m0.cell 1; have y2 := m0.cell 2; have y3 := m0.cell 3; have y4 := m0.cell 4; have y5 := m0.cell 5; have ly := m0.lt; have HM0 := hide m0; have HM1 := hide (HK1.out.keep hb1); have HM2 := hide (HK2.out.keep hb1); have HB1 := hide (HB0.out.trans (hb1.mono HB0.out.size)); clear hb1 m0))
  obtain ⟨W3, hW3⟩ : ∃ W3, W3 = put6 w2 w.heap.size (.int .i64 d.size) (.slice AE2 d.exts.length cE2) (.slice AW2 d.waits.length cW2) (.int .i64 d.fuse) (.bool d.down) (.int .i64 b) := ⟨_, rfl⟩
  rw [show ((((((w2.setCell ⟨w.heap.size, 0, none⟩ (.int .i64 d.size)).setCell ⟨w.heap.size, 1, none⟩ (.slice AE2 d.exts.length cE2)).setCell ⟨w.heap.size, 2, none⟩ (.slice AW2 d.waits.length cW2)).setCell ⟨w.heap.size, 3, none⟩ (.int .i64 d.fuse)).setCell ⟨w.heap.size, 4, none⟩ (.bool d.down)).setCell ⟨w.heap.size, 5, none⟩ (.int .i64 b)) = W3 from hW3.symm]
  have q0 := put6_bk HN0.out (.int .i64 d.size) (.slice AE2 d.exts.length cE2) (.slice AW2 d.waits.length cW2) (.int .i64 d.fuse) (.bool d.down) (.int .i64 b)
  have q1 := HN1.out.fr (put6_fr w2 w.heap.size (.int .i64 d.size) (.slice AE2 d.exts.length cE2) (.slice AW2 d.waits.length cW2) (.int .i64 d.fuse) (.bool d.down) (.int .i64 b)) (by omega)
  have q2 := HN2.out.fr (put6_fr w2 w.heap.size (.int .i64 d.size) (.slice AE2 d.exts.length cE2) (.slice AW2 d.waits.length cW2) (.int .i64 d.fuse) (.bool d.down) (.int .i64 b)) (by omega)
  have qq := HQ2.out.put6 HN0.out (.int .i64 d.size) (.slice AE2 d.exts.length cE2) (.slice AW2 d.waits.length cW2) (.int .i64 d.fuse) (.bool d.down) (.int .i64 b)
  have qb := put6_below HB2.out (Nat.le_refl _) (.int .i64 d.size) (.slice AE2 d.exts.length cE2) (.slice AW2 d.waits.length cW2) (.int .i64 d.fuse) (.bool d.down) (.int .i64 b)
  rw [← hW3] at q0 q1 q2 qq qb
  have s0 := q1.cell 0
  have s1 := q1.cell 1
  have s2 := q1.cell 2
  have s3 := q1.cell 3
  have s4 := q1.cell 4
  have s5 := q1.cell 5
  have ls := q1.lt
  have HP0 := hide q0
  have HP1 := hide q1
  have HP2 := hide q2
  have HQ := hide qq
  have HB := hide qb
  clear q0 q1 q2 qq qb hW3 HN0 HN1 HN2 HQ2 HB2 x0 x1 x2 x3 x4 x5 fx0 fx1 fx2 fx3 fx4 fx5
  go_upto_region 11 with (first
    | (go_at_call 43; refine Calls.mono (HRt.out _) ?_; rintro e w4 ⟨rfl, hb4⟩; have m1 := HP1.out.keep hb4; have s0 := m1.cell 0; have s1 := m1.cell 1; have s2 := m1.cell 2; have s3 := m1.cell 3; have s4 := m1.cell 4; have s5 := m1.cell 5; have ls := m1.lt; have HP0 := hide (HP0.out.keep hb4); have HP1 := hide m1; have HP2 := hide (HP2.out.keep hb4); have HQ := hide (HQ.out.keep hb4); have HB := hide (HB.out.trans (hb4.mono HB.out.size)); clear hb4 m1)
    | (go_at_call 69; refine Calls.mono (HUs.out _) ?_; rintro e w5 ⟨rfl, hb5⟩; have m0 := HP0.out.keep hb5; have m1 := HP1.out.keep hb5; have x0 := m0.cell 0; have x1 := m0.cell 1; have x2 := m0.cell 2; have x3 := m0.cell 3; have x4 := m0.cell 4; have x5 := m0.cell 5; have s0 := m1.cell 0; have s1 := m1.cell 1; have s2 := m1.cell 2; have s3 := m1.cell 3; have s4 := m1.cell 4; have s5 := m1.cell 5; have ls := m1.lt; have lx := m0.lt; have HP0 := hide m0; have HP1 := hide m1; have HP2 := hide (HP2.out.keep hb5); have HQ := hide (HQ.out.keep hb5); have HB := hide (HB.out.trans (hb5.mono HB.out.size)); clear hb5 m0 m1))
  obtain ⟨W6, hW6⟩ : ∃ W6, W6 = w5.alloc (.cells #[.int .i64 d.size, .slice AE2 d.exts.length cE2, .slice AW2 d.waits.length cW2, .int .i64 d.fuse, .bool d.down] 102) := ⟨_, rfl⟩
  rw [← hW6]
  have hb6 : Below w5.heap.size w5 W6 := by rw [hW6]; exact ba1 _ _
  have k6 : Bk W6 w5.heap.size 102 #[.int .i64 d.size, .slice AE2 d.exts.length cE2, .slice AW2 d.waits.length cW2, .int .i64 d.fuse, .bool d.down] := by rw [hW6]; exact Bk.new _ _ _
  have q0 := HP0.out.keep hb6
  have q1 := HP1.out.keep hb6
  have q2 := HP2.out.keep hb6
  have qq := HQ.out.keep hb6
  have hdv : Dv W6 W6.heap.size (.agg #[.int .i64 d.size, .slice AE2 d.exts.length cE2, .slice AW2 d.waits.length cW2, .int .i64 d.fuse, .bool d.down]) d := by
    obtain ⟨a1, a2, a3, a4, e, h1, h2⟩ := qq.r
    cases e
    exact ⟨_, _, _, _, rfl, h1, h2⟩
  have s0 := q1.cell 0
  have s1 := q1.cell 1
  have s2 := q1.cell 2
  have s3 := q1.cell 3
  have s4 := q1.cell 4
  have s5 := q1.cell 5
  have x0 := q0.cell 0
  have x1 := q0.cell 1
  have x2 := q0.cell 2
  have x3 := q0.cell 3
  have x4 := q0.cell 4
  have x5 := q0.cell 5
  have fx0 := q0.free 0
  have fx1 := q0.free 1
  have fx2 := q0.free 2
  have fx3 := q0.free 3
  have fx4 := q0.free 4
  have fx5 := q0.free 5
  have r0 := q2.cell 0
  have r1 := q2.cell 1
  have r2 := q2.cell 2
  have r3 := q2.cell 3
  have r4 := q2.cell 4
  have r5 := q2.cell 5
  have fr0 := q2.free 0
  have fr1 := q2.free 1
  have fr2 := q2.free 2
  have fr3 := q2.free 3
  have fr4 := q2.free 4
  have fr5 := q2.free 5
  have t0 := k6.cell 0
  have t1 := k6.cell 1
  have t2 := k6.cell 2
  have t3 := k6.cell 3
  have t4 := k6.cell 4
  have l0 := q0.lt
  have l1 := q1.lt
  have l2 := q2.lt
  have l6 := k6.lt
  have HDv := hide hdv
  have HP0 := hide q0
  have HP1 := hide q1
  have HP2 := hide q2
  have HQ := hide qq
  have HB := hide (HB.out.trans (hb6.mono HB.out.size))
  clear q0 q1 q2 qq hdv k6 hb6 hW6
  have HWt := hide (writeText_any _ d nm tx W6 HDv.out HZ.out ht)
  rw [← hp7] at HWt
  go_upto_region 29 with (go_at_call 70; refine Calls.mono HWt.out ?_; rintro e w7 ⟨⟨v7, rfl, hq7⟩, hb7⟩; obtain ⟨AE7, cE7, AW7, cW7, rfl, h1, h2⟩ := hq7; have q0 := HP0.out.keep hb7; have q2 := HP2.out.keep hb7; have x0 := q0.cell 0; have x1 := q0.cell 1; have x2 := q0.cell 2; have x3 := q0.cell 3; have x4 := q0.cell 4; have x5 := q0.cell 5; have fx0 := q0.free 0; have fx1 := q0.free 1; have fx2 := q0.free 2; have fx3 := q0.free 3; have fx4 := q0.free 4; have fx5 := q0.free 5; have l0 := q0.lt; have H1 := hide h1; have H2 := hide h2; have HP0 := hide q0; have HP2 := hide q2; have HB := hide (HB.out.trans (hb7.mono HB.out.size)); clear q0 q2 h1 h2 hb7)
  obtain ⟨W8, hW8⟩ : ∃ W8, W8 = pt5 w7 w.heap.size (.int .i64 d7.size) (.slice AE7 d7.exts.length cE7) (.slice AW7 d7.waits.length cW7) (.int .i64 d7.fuse) (.bool d7.down) := ⟨_, rfl⟩
  rw [show (((((w7.setCell ⟨w.heap.size, 0, none⟩ (.int .i64 d7.size)).setCell ⟨w.heap.size, 1, none⟩ (.slice AE7 d7.exts.length cE7)).setCell ⟨w.heap.size, 2, none⟩ (.slice AW7 d7.waits.length cW7)).setCell ⟨w.heap.size, 3, none⟩ (.int .i64 d7.fuse)).setCell ⟨w.heap.size, 4, none⟩ (.bool d7.down)) = W8 from hW8.symm]
  have q0 := pt5_bk6 HP0.out (.int .i64 d7.size) (.slice AE7 d7.exts.length cE7) (.slice AW7 d7.waits.length cW7) (.int .i64 d7.fuse) (.bool d7.down)
  have q2 := HP2.out.fr (pt5_fr w7 w.heap.size (.int .i64 d7.size) (.slice AE7 d7.exts.length cE7) (.slice AW7 d7.waits.length cW7) (.int .i64 d7.fuse) (.bool d7.down)) (by omega)
  have qq : WvQ (pt5 w7 w.heap.size (.int .i64 d7.size) (.slice AE7 d7.exts.length cE7) (.slice AW7 d7.waits.length cW7) (.int .i64 d7.fuse) (.bool d7.down)) (.agg #[.int .i64 d7.size, .slice AE7 d7.exts.length cE7, .slice AW7 d7.waits.length cW7, .int .i64 d7.fuse, .bool d7.down, .int .i64 b]) d7 b := ⟨AE7, cE7, AW7, cW7, rfl, own_pt5 H1.out (fun e => own_ne H1.out HP0.out (by decide) e.symm) _ _ _ _ _, own_pt5 H2.out (fun e => own_ne H2.out HP0.out (by decide) e.symm) _ _ _ _ _⟩
  have qb : Below w.heap.size w (pt5 w7 w.heap.size (.int .i64 d7.size) (.slice AE7 d7.exts.length cE7) (.slice AW7 d7.waits.length cW7) (.int .i64 d7.fuse) (.bool d7.down)) := HB.out.trans ((pt5_fr w7 w.heap.size _ _ _ _ _).toBelowB (fun k hk => by subst hk; exact Nat.le_refl _) HB.out.size)
  rw [← hW8] at q0 q2 qq qb
  clear hW8 x0 x1 x2 x3 x4 x5 fx0 fx1 fx2 fx3 fx4 fx5 r0 r1 r2 r3 r4 r5 fr0 fr1 fr2 fr3 fr4 fr5 t0 t1 t2 t3 t4 s0 s1 s2 s3 s4 s5
  have x0 := q0.cell 0
  have x1 := q0.cell 1
  have x2 := q0.cell 2
  have x3 := q0.cell 3
  have x4 := q0.cell 4
  have x5 := q0.cell 5
  have r0 := q2.cell 0
  have r1 := q2.cell 1
  have r2 := q2.cell 2
  have r3 := q2.cell 3
  have r4 := q2.cell 4
  have r5 := q2.cell 5
  have fr0 := q2.free 0
  have fr1 := q2.free 1
  have fr2 := q2.free 2
  have fr3 := q2.free 3
  have fr4 := q2.free 4
  have fr5 := q2.free 5
  have l0 := q0.lt
  have l2 := q2.lt
  have HE2 := hide q2
  have HQ := hide qq
  have HB := hide qb
  clear q0 q2 qq qb HP0 HP1 HP2
  go_wp2_with fail
  refine bodyPost_ret (v := .tuple #[.agg #[_, _, _, _, _, _], .string ⟨#[]⟩, .int .i64 z7]) (res_w3 Tryz.results50 (put6_bk HE2.out _ _ _ _ _ _) rfl rfl rfl) rfl ?_
  exact ⟨⟨_, rfl, HQ.out.put6 HE2.out _ _ _ _ _ _⟩, put6_below HB.out (by omega) _ _ _ _ _ _⟩
set_option maxRecDepth 100000 in
set_option maxHeartbeats 8000000 in
theorem do_get (V : Value) (d : Dsk) (b : Int) (nm : ByteArray) (A : Option Addr) (c : Nat) (w : World) (hv : WvR w w.heap.size V d b) (hz : SzD d) (hw : worldE d b = 0) (hn : nm.size ≤ 1000000) :
    Calls Tryz.prog 50 #[V, .agg #[.int .u8 2, .string nm, .string ⟨#[]⟩, .string ⟨#[]⟩, .int .i64 0, .slice A 0 c]] w fun e w' => (∃ V', e = .returned (.tuple #[V', .string (bodyD d nm true).2.1, .int .i64 (bodyD d nm true).2.2]) ∧ WvQ w' V' d b) ∧ Below w.heap.size w w' := by
  obtain ⟨⟨n7, t7, z7⟩, hp7⟩ : ∃ r, r = bodyD d nm true := ⟨_, rfl⟩
  rw [← hp7]
  have hck := fun W (h : Below w.heap.size w W) => wcheck_any V d b W ((hv.below h).more h.size) hz
  have how := fun W (h : Below w.heap.size w W) => wown_any V d b W ((hv.below h).more h.size) hz
  rw [hw] at hck
  have hrt := fun W => wright_any 2 nm ⟨#[]⟩ ⟨#[]⟩ 0 [] A c W (by omega) (by decide) (by decide) (by decide)
  have hus := fun W => users_any 2 nm ⟨#[]⟩ ⟨#[]⟩ 0 [] A 0 c W
  have hr1 : rightS ⟨2, nm, ⟨#[]⟩, ⟨#[]⟩, 0, []⟩ = true := by unfold rightS hasNm hasTo hasN; rfl
  have hu1 : usersB ⟨2, nm, ⟨#[]⟩, ⟨#[]⟩, 0, []⟩ = true := rfl
  rw [hr1] at hrt
  rw [hu1] at hus
  obtain ⟨AE, cE, AW, cW, rfl, hE, hW⟩ := hv
  obtain ⟨W0, hW0⟩ : ∃ W0, W0 = ((w.alloc (.cells #[.int .i64 d.size, .slice AE d.exts.length cE, .slice AW d.waits.length cW, .int .i64 d.fuse, .bool d.down, .int .i64 b] 104)).alloc (.cells #[.int .u8 2, .string nm, .string ⟨#[]⟩, .string ⟨#[]⟩, .int .i64 0, .slice A 0 c] 39)).alloc (.cells #[.int .i64 0, .slice none 0 0, .slice none 0 0, .int .i64 0, .bool false, .int .i64 0] 104) := ⟨_, rfl⟩
  have hb0 : Below w.heap.size w W0 := by rw [hW0]; exact btrans (ba2 _ _ _) (ba1 _ _)
  have k0 : Bk W0 w.heap.size 104 #[.int .i64 d.size, .slice AE d.exts.length cE, .slice AW d.waits.length cW, .int .i64 d.fuse, .bool d.down, .int .i64 b] := by rw [hW0]; exact ((Bk.new _ _ _).alloc _).alloc _
  have k1 : Bk W0 (w.heap.size + 1) 39 #[.int .u8 2, .string nm, .string ⟨#[]⟩, .string ⟨#[]⟩, .int .i64 0, .slice A 0 c] := by rw [hW0]; exact (Bk.new1 _ _ _ _).alloc _
  have k2 : Bk W0 (w.heap.size + 1 + 1) 104 #[.int .i64 0, .slice none 0 0, .slice none 0 0, .int .i64 0, .bool false, .int .i64 0] := by rw [hW0]; exact Bk.new2 _ _ _ _ _
  have p0 := k0.cell 0
  have p1 := k0.cell 1
  have p2 := k0.cell 2
  have p3 := k0.cell 3
  have p4 := k0.cell 4
  have p5 := k0.cell 5
  have lp := k0.lt
  have HCk := hide (hck W0 hb0)
  have HOw := hide how
  have HRt := hide (show ∀ W, Calls Tryz.prog 43 #[.agg #[.int .u8 2, .string nm, .string ⟨#[]⟩, .string ⟨#[]⟩, .int .i64 0, .slice A 0 c]] W fun e w' => e = .returned (.bool true) ∧ Below W.heap.size W w' from hrt)
  have HUs := hide (show ∀ W, Calls Tryz.prog 69 #[.agg #[.int .u8 2, .string nm, .string ⟨#[]⟩, .string ⟨#[]⟩, .int .i64 0, .slice A 0 c]] W fun e w' => e = .returned (.bool true) ∧ Below W.heap.size W w' from hus)
  have HW0 := hide hW0
  have HB0 := hide hb0
  have HK0 := hide k0
  have HK1 := hide k1
  have HK2 := hide k2
  have HZ := hide hz
  clear hck how hrt hus hr1 hu1 hE hW hW0 hb0 k0 k1 k2 hz hw
  go_enter Tryz.func50, Tryz.ntmps50
  go_upto_region 5 with (first
    | (have hx := HB1; clear hx; go_at_call 68; refine Calls.mono (HOw.out _ HB1.out) ?_; rintro e w2 ⟨⟨V2, rfl, hq2⟩, hb2⟩; obtain ⟨AE2, cE2, AW2, cW2, rfl, h1, h2⟩ := hq2; have m0 := HM0.out.keep hb2; have m1 := HM1.out.keep hb2; have m2 := HM2.out.keep hb2; have x0 := m0.cell 0; have x1 := m0.cell 1; have x2 := m0.cell 2; have x3 := m0.cell 3; have x4 := m0.cell 4; have x5 := m0.cell 5; have fx0 := m0.free 0; have fx1 := m0.free 1; have fx2 := m0.free 2; have fx3 := m0.free 3; have fx4 := m0.free 4; have fx5 := m0.free 5; have lx := m0.lt; have HQ2 := hide (show WvQ w2 (.agg #[.int .i64 d.size, .slice AE2 d.exts.length cE2, .slice AW2 d.waits.length cW2, .int .i64 d.fuse, .bool d.down, .int .i64 b]) d b from ⟨AE2, cE2, AW2, cW2, rfl, h1, h2⟩); have HN0 := hide m0; have HN1 := hide m1; have HN2 := hide m2; have HB2 := hide (HB1.out.trans (hb2.mono HB1.out.size)); clear hb2 m0 m1 m2 h1 h2)
    | (go_at_call 67; rw [← HW0.out]; refine Calls.mono HCk.out ?_; rintro e w1 ⟨rfl, hb1⟩; have m0 := HK0.out.keep hb1; have y0 := m0.cell 0; have y1 := m0.cell 1; have y2 := m0.cell 2; have y3 := m0.cell 3; have y4 := m0.cell 4; have y5 := m0.cell 5; have ly := m0.lt; have HM0 := hide m0; have HM1 := hide (HK1.out.keep hb1); have HM2 := hide (HK2.out.keep hb1); have HB1 := hide (HB0.out.trans (hb1.mono HB0.out.size)); clear hb1 m0))
  obtain ⟨W3, hW3⟩ : ∃ W3, W3 = put6 w2 w.heap.size (.int .i64 d.size) (.slice AE2 d.exts.length cE2) (.slice AW2 d.waits.length cW2) (.int .i64 d.fuse) (.bool d.down) (.int .i64 b) := ⟨_, rfl⟩
  rw [show ((((((w2.setCell ⟨w.heap.size, 0, none⟩ (.int .i64 d.size)).setCell ⟨w.heap.size, 1, none⟩ (.slice AE2 d.exts.length cE2)).setCell ⟨w.heap.size, 2, none⟩ (.slice AW2 d.waits.length cW2)).setCell ⟨w.heap.size, 3, none⟩ (.int .i64 d.fuse)).setCell ⟨w.heap.size, 4, none⟩ (.bool d.down)).setCell ⟨w.heap.size, 5, none⟩ (.int .i64 b)) = W3 from hW3.symm]
  have q0 := put6_bk HN0.out (.int .i64 d.size) (.slice AE2 d.exts.length cE2) (.slice AW2 d.waits.length cW2) (.int .i64 d.fuse) (.bool d.down) (.int .i64 b)
  have q1 := HN1.out.fr (put6_fr w2 w.heap.size (.int .i64 d.size) (.slice AE2 d.exts.length cE2) (.slice AW2 d.waits.length cW2) (.int .i64 d.fuse) (.bool d.down) (.int .i64 b)) (by omega)
  have q2 := HN2.out.fr (put6_fr w2 w.heap.size (.int .i64 d.size) (.slice AE2 d.exts.length cE2) (.slice AW2 d.waits.length cW2) (.int .i64 d.fuse) (.bool d.down) (.int .i64 b)) (by omega)
  have qq := HQ2.out.put6 HN0.out (.int .i64 d.size) (.slice AE2 d.exts.length cE2) (.slice AW2 d.waits.length cW2) (.int .i64 d.fuse) (.bool d.down) (.int .i64 b)
  have qb := put6_below HB2.out (Nat.le_refl _) (.int .i64 d.size) (.slice AE2 d.exts.length cE2) (.slice AW2 d.waits.length cW2) (.int .i64 d.fuse) (.bool d.down) (.int .i64 b)
  rw [← hW3] at q0 q1 q2 qq qb
  have s0 := q1.cell 0
  have s1 := q1.cell 1
  have s2 := q1.cell 2
  have s3 := q1.cell 3
  have s4 := q1.cell 4
  have s5 := q1.cell 5
  have ls := q1.lt
  have HP0 := hide q0
  have HP1 := hide q1
  have HP2 := hide q2
  have HQ := hide qq
  have HB := hide qb
  clear q0 q1 q2 qq qb hW3 HN0 HN1 HN2 HQ2 HB2 x0 x1 x2 x3 x4 x5 fx0 fx1 fx2 fx3 fx4 fx5
  go_upto_region 11 with (first
    | (go_at_call 43; refine Calls.mono (HRt.out _) ?_; rintro e w4 ⟨rfl, hb4⟩; have m1 := HP1.out.keep hb4; have s0 := m1.cell 0; have s1 := m1.cell 1; have s2 := m1.cell 2; have s3 := m1.cell 3; have s4 := m1.cell 4; have s5 := m1.cell 5; have ls := m1.lt; have HP0 := hide (HP0.out.keep hb4); have HP1 := hide m1; have HP2 := hide (HP2.out.keep hb4); have HQ := hide (HQ.out.keep hb4); have HB := hide (HB.out.trans (hb4.mono HB.out.size)); clear hb4 m1)
    | (go_at_call 69; refine Calls.mono (HUs.out _) ?_; rintro e w5 ⟨rfl, hb5⟩; have m0 := HP0.out.keep hb5; have m1 := HP1.out.keep hb5; have x0 := m0.cell 0; have x1 := m0.cell 1; have x2 := m0.cell 2; have x3 := m0.cell 3; have x4 := m0.cell 4; have x5 := m0.cell 5; have s0 := m1.cell 0; have s1 := m1.cell 1; have s2 := m1.cell 2; have s3 := m1.cell 3; have s4 := m1.cell 4; have s5 := m1.cell 5; have ls := m1.lt; have lx := m0.lt; have HP0 := hide m0; have HP1 := hide m1; have HP2 := hide (HP2.out.keep hb5); have HQ := hide (HQ.out.keep hb5); have HB := hide (HB.out.trans (hb5.mono HB.out.size)); clear hb5 m0 m1))
  obtain ⟨W6, hW6⟩ : ∃ W6, W6 = w5.alloc (.cells #[.int .i64 d.size, .slice AE2 d.exts.length cE2, .slice AW2 d.waits.length cW2, .int .i64 d.fuse, .bool d.down] 102) := ⟨_, rfl⟩
  rw [← hW6]
  have hb6 : Below w5.heap.size w5 W6 := by rw [hW6]; exact ba1 _ _
  have k6 : Bk W6 w5.heap.size 102 #[.int .i64 d.size, .slice AE2 d.exts.length cE2, .slice AW2 d.waits.length cW2, .int .i64 d.fuse, .bool d.down] := by rw [hW6]; exact Bk.new _ _ _
  have q0 := HP0.out.keep hb6
  have q1 := HP1.out.keep hb6
  have q2 := HP2.out.keep hb6
  have qq := HQ.out.keep hb6
  have hdv : Dv W6 W6.heap.size (.agg #[.int .i64 d.size, .slice AE2 d.exts.length cE2, .slice AW2 d.waits.length cW2, .int .i64 d.fuse, .bool d.down]) d := by
    obtain ⟨a1, a2, a3, a4, e, h1, h2⟩ := qq.r
    cases e
    exact ⟨_, _, _, _, rfl, h1, h2⟩
  have s0 := q1.cell 0
  have s1 := q1.cell 1
  have s2 := q1.cell 2
  have s3 := q1.cell 3
  have s4 := q1.cell 4
  have s5 := q1.cell 5
  have x0 := q0.cell 0
  have x1 := q0.cell 1
  have x2 := q0.cell 2
  have x3 := q0.cell 3
  have x4 := q0.cell 4
  have x5 := q0.cell 5
  have fx0 := q0.free 0
  have fx1 := q0.free 1
  have fx2 := q0.free 2
  have fx3 := q0.free 3
  have fx4 := q0.free 4
  have fx5 := q0.free 5
  have r0 := q2.cell 0
  have r1 := q2.cell 1
  have r2 := q2.cell 2
  have r3 := q2.cell 3
  have r4 := q2.cell 4
  have r5 := q2.cell 5
  have fr0 := q2.free 0
  have fr1 := q2.free 1
  have fr2 := q2.free 2
  have fr3 := q2.free 3
  have fr4 := q2.free 4
  have fr5 := q2.free 5
  have t0 := k6.cell 0
  have t1 := k6.cell 1
  have t2 := k6.cell 2
  have t3 := k6.cell 3
  have t4 := k6.cell 4
  have l0 := q0.lt
  have l1 := q1.lt
  have l2 := q2.lt
  have l6 := k6.lt
  have HDv := hide hdv
  have HP0 := hide q0
  have HP1 := hide q1
  have HP2 := hide q2
  have HQ := hide qq
  have HB := hide (HB.out.trans (hb6.mono HB.out.size))
  clear q0 q1 q2 qq hdv k6 hb6 hW6
  have HRd := hide (readText_any _ d nm W6 HDv.out HZ.out)
  rw [← hp7] at HRd
  go_upto_region 29 with (go_at_call 71; refine Calls.mono HRd.out ?_; rintro e w7 ⟨rfl, hb7⟩; have q0 := HP0.out.keep hb7; have q2 := HP2.out.keep hb7; have x0 := q0.cell 0; have x1 := q0.cell 1; have x2 := q0.cell 2; have x3 := q0.cell 3; have x4 := q0.cell 4; have x5 := q0.cell 5; have r0 := q2.cell 0; have r1 := q2.cell 1; have r2 := q2.cell 2; have r3 := q2.cell 3; have r4 := q2.cell 4; have r5 := q2.cell 5; have fr0 := q2.free 0; have fr1 := q2.free 1; have fr2 := q2.free 2; have fr3 := q2.free 3; have fr4 := q2.free 4; have fr5 := q2.free 5; have l0 := q0.lt; have l2 := q2.lt; have HE2 := hide q2; have HQ := hide (HQ.out.keep hb7); have HB := hide (HB.out.trans (hb7.mono HB.out.size)); clear q0 q2 hb7)
  go_wp2_with fail
  refine bodyPost_ret (v := .tuple #[.agg #[_, _, _, _, _, _], .string t7, .int .i64 z7]) (res_w3 Tryz.results50 (put6_bk HE2.out _ _ _ _ _ _) rfl rfl rfl) rfl ?_
  exact ⟨⟨_, rfl, HQ.out.put6 HE2.out _ _ _ _ _ _⟩, put6_below HB.out (by omega) _ _ _ _ _ _⟩
end Go.Proofs.YtahnnebpadbopaaGreatDoor
/- Walks: world.Files; front.told. -/
namespace Go.Proofs.YtahnnebpadbopaaGreatDoor
open Go.RowKit

set_option maxRecDepth 100000 in
set_option maxHeartbeats 8000000 in
theorem files_any (V : Value) (d : Dsk) (b : Int) (w : World) (hv : WvR w w.heap.size V d b) (hz : SzD d) :
    Calls Tryz.prog 52 #[V] w fun e w' => (∃ L, e = .returned (.tuple #[L, .int .i64 (filesW d b).2]) ∧ w'.ownsRow w.heap.size 9 1 L (filesW d b).1.length ((filesW d b).1.map .string)) ∧ Below w.heap.size w w' := by
  have hck := fun W (h : Below w.heap.size w W) => wcheck_any V d b W ((hv.below h).more h.size) hz
  have hzx := hz.exts
  obtain ⟨AE, cE, AW, cW, rfl, hE, hW⟩ := hv
  obtain ⟨W0, hW0⟩ : ∃ W0, W0 = w.alloc (.cells #[.int .i64 d.size, .slice AE d.exts.length cE, .slice AW d.waits.length cW, .int .i64 d.fuse, .bool d.down, .int .i64 b] 104) := ⟨_, rfl⟩
  have hb0 : Below w.heap.size w W0 := by rw [hW0]; exact ba1 _ _
  have k0 : Bk W0 w.heap.size 104 #[.int .i64 d.size, .slice AE d.exts.length cE, .slice AW d.waits.length cW, .int .i64 d.fuse, .bool d.down, .int .i64 b] := by rw [hW0]; exact Bk.new _ _ _
  have p0 := k0.cell 0
  have p1 := k0.cell 1
  have p2 := k0.cell 2
  have p3 := k0.cell 3
  have p4 := k0.cell 4
  have p5 := k0.cell 5
  have lp := k0.lt
  have hc0 := hck W0 hb0
  obtain ⟨z, hzw⟩ : ∃ z, z = worldE d b := ⟨_, rfl⟩
  rw [← hzw] at hc0
  have HCk := hide hc0
  have HW0 := hide hW0
  have HB0 := hide hb0
  have HK0 := hide k0
  have HE := hide hE
  obtain ⟨i0, hi, hz0, hz1, hz2⟩ := info_parts info_str
  have hzv : z = 0 ∨ z = 2 := by rw [hzw]; unfold worldE; split <;> simp
  have HF := hide (show filesW d b = if z = 0 then (namesD d, 0) else ([], 2) by unfold filesW; rw [← hzw])
  clear hck hW hW0 hb0 k0 hc0 hE hzw
  by_cases h0 : z = 0
  · subst h0
    have HFe := hide (show filesW d b = (namesD d, 0) by rw [HF.out]; rfl)
    clear HF hzv
    go_enter Tryz.func52, Tryz.ntmps52
    go_wp2_with (go_at_call 67; rw [← HW0.out]; refine Calls.mono HCk.out ?_; rintro e w1 ⟨rfl, hb1⟩; have m0 := HK0.out.keep hb1; have q1 := m0.cell 1; have lq := m0.lt; have HB1 := hide (HB0.out.trans (hb1.mono HB0.out.size)); clear hb1 m0)
    have HNo := hide (World.ownsRow_nil w1 w.heap.size 9 1)
    go_loopw [5, 17] (fun ov iv wr => ∃ (k : Nat) (out : List ByteArray), iv = .int .i64 k ∧ k ≤ d.exts.length ∧ Hid (out = ((d.exts.take k).map Ext.nm).filter mayB) ∧ Hid (wr.ownsRow w.heap.size 9 1 ov out.length (out.map .string)) ∧ Hid (Below w.heap.size w wr) ∧ out.length ≤ k) (fun _ iv _ => d.exts.length - (intOf iv).toNat)
    case atStart => exact ⟨0, [], rfl, by omega, hide (by simp), HNo, HB1, by simp⟩
    case round =>
      clear HNo
      obtain ⟨k, out, rfl, hk, hout, hO, hB, hol⟩ := hrel
      obtain ⟨A4, c4, rfl⟩ := own_formk hO.out
      have hzr := hB.out.size
      by_cases hlt : k < d.exts.length
      · obtain ⟨x, hx⟩ : ∃ x, d.exts[k]? = some x := ⟨d.exts[k], by simp [hlt]⟩
        obtain ⟨bb, oo, rfl, hbb, x0, x1⟩ := ext_cells (HE.out.below hB.out) hx
        have hbr : bb < _ := Nat.lt_of_lt_of_le hbb hB.out.size
        have htk : ((d.exts.take (k + 1)).map Ext.nm).filter mayB = out ++ (if mayB x.nm then [x.nm] else []) := by
          rw [List.take_add_one, hx, List.map_append, List.filter_append, ← hout.out]
          simp only [Option.toList_some, List.map_cons, List.map_nil]
          cases h : mayB x.nm <;> simp [List.filter, h]
        obtain ⟨m, hm⟩ : ∃ m, m = mayB x.nm := ⟨_, rfl⟩
        have hma := fun W => May_any x.nm W
        rw [← hm] at hma htk
        have HMa := hide hma
        have HTk := hide htk
        have HO := hO
        have hxl : (0 : Nat) ≤ 0 := Nat.le_refl _
        clear hma htk hm hx hxl
        obtain ⟨W3, hW3⟩ : ∃ W3, W3 = wr.alloc (.cells #[.string x.nm, .string x.dt] 156) := ⟨_, rfl⟩
        have hb3 : Below wr.heap.size wr W3 := by rw [hW3]; exact ba1 _ _
        have k3 : Bk W3 wr.heap.size 156 #[.string x.nm, .string x.dt] := by rw [hW3]; exact Bk.new _ _ _
        obtain ⟨y0, y1⟩ := two_cells k3
        have ly := k3.lt
        have HW3 := hide hW3
        have HK3 := hide k3
        have HB3 := hide (hB.out.trans (hb3.mono hzr))
        have HO3 := hide (own_keep hO.out hb3)
        clear hW3 hb3 k3
        cases m with
        | false =>
          go_wp2_with (go_at_call 80; rw [← HW3.out]; refine Calls.mono (HMa.out _) ?_; rintro e w4 ⟨rfl, hb4⟩; have HO4 := hide (own_keep HO3.out hb4); have HB4 := hide (HB3.out.trans (hb4.mono HB3.out.size)); clear hb4)
          exact ⟨⟨k + 1, out, by simp, by omega, hide (by rw [HTk.out]; simp), HO4, HB4, by omega⟩, by simp [intOf]; omega⟩
        | true =>
          go_wp2_with (first
            | (go_at_call 80; rw [← HW3.out]; refine Calls.mono (HMa.out _) ?_; rintro e w4 ⟨rfl, hb4⟩; have m3 := HK3.out.keep hb4; obtain ⟨u0, u1⟩ := two_cells m3; have lu := m3.lt; have HO4 := hide (own_keep HO3.out hb4); have HB4 := hide (HB3.out.trans (hb4.mono HB3.out.size)); clear hb4 m3)
            | (at_builtin; refine wpList_append_own _ rfl (.tmp 24) (.tmp 27) 94 rfl w.heap.size 9 i0 (.string ⟨#[]⟩) 1 16 Tryz.underlying94 hi hz0 hz1 hz2 rfl (by decide) (.slice A4 out.length c4) out.length _ rfl (HO4.out.alloc _) ⟨_, 0, none⟩ 1 1 [.string x.nm] rfl rfl (cell_one_new _ _ _) (by intro u hu; simp at hu; subst hu; rfl) (by unfold maxLen; omega) (by omega) (by have := HB4.out.size; simp; omega) ?_; intro v5 w5 hown5 hgr5 _; have hb5 : Below w.heap.size w w5 := (HB4.out.alloc HB4.out.size _).grown hgr5 (by have := HB4.out.size; simp; omega) (fun g hg => (HO4.out.lt g hg).1); have HO5 := hide hown5; have HB5 := hide hb5; clear hown5 hgr5 hb5))
          exact ⟨⟨k + 1, out ++ [x.nm], by simp, by omega, hide (by rw [HTk.out]; rfl), hide (by rw [List.map_append, List.length_append]; exact HO5.out), HB5, by simp; omega⟩, by simp [intOf]; omega⟩
      · obtain rfl : k = d.exts.length := by omega
        have hne : out = namesD d := by rw [hout.out, List.take_length]; rfl
        have HNe := hide hne
        clear hne hout
        go_wp2_with fail
        refine bodyPost_ret (v := .tuple #[.slice A4 out.length c4, .int .i64 0]) (by simp [results, Tryz.results52, go_sem]) rfl ?_
        exact ⟨⟨_, by rw [HFe.out], by rw [HFe.out, ← HNe.out]; exact hO.out⟩, hB.out⟩
  · have hz2' : z = 2 := by omega
    subst hz2'
    have HFe := hide (show filesW d b = ([], 2) by rw [HF.out, if_neg (by decide)])
    clear HF hzv h0
    go_enter Tryz.func52, Tryz.ntmps52
    go_wp2_with (go_at_call 67; rw [← HW0.out]; refine Calls.mono HCk.out ?_; rintro e w1 ⟨rfl, hb1⟩; have HB1 := hide (HB0.out.trans (hb1.mono HB0.out.size)); clear hb1)
    refine bodyPost_ret (v := .tuple #[.slice none 0 0, .int .i64 2]) (by simp [results, Tryz.results52, go_sem]) rfl ?_
    exact ⟨⟨_, by rw [HFe.out], by rw [HFe.out]; exact World.ownsRow_nil _ _ _ _⟩, HB1.out⟩
theorem told_ok (k : Nat) (nm to_ tx : ByteArray) (n : Int) (A : Option Addr) (m c : Nat) (text : ByteArray) (w : World) (hk : k ≠ 2) : Calls Tryz.prog 51 #[.agg #[.int .u8 (k : Nat), .string nm, .string to_, .string tx, .int .i64 n, .slice A m c], .string text, .int .i64 0] w fun e w' => e = .returned (.string ⟨#[111, 107]⟩) ∧ Below w.heap.size w w' := by
  have t2 : ((k : Int) == 2) = false := by rw [beq_eq_false_iff_ne]; omega
  go_enter Tryz.func51, Tryz.ntmps51
  go_wp2_with fail
  go_ret
  exact ⟨rfl, ba1 _ _⟩
theorem told_get (nm to_ tx : ByteArray) (n : Int) (A : Option Addr) (m c : Nat) (text : ByteArray) (w : World) (ht : text.size ≤ 100000000) : Calls Tryz.prog 51 #[.agg #[.int .u8 2, .string nm, .string to_, .string tx, .int .i64 n, .slice A m c], .string text, .int .i64 0] w fun e w' => e = .returned (.string (blB ([111, 107, 32] ++ quoteB (bl text)))) ∧ Below w.heap.size w w' := by
  have hq := fun W => fquote_any text W ht
  obtain ⟨Q, hQ⟩ : ∃ Q, Q = blB (quoteB (bl text)) := ⟨_, rfl⟩
  have hQs : Q.size ≤ 400000002 := by
    rw [hQ, blB_size]
    have := quote_max (bl text)
    rw [bl_size] at this
    unfold quoteB
    rw [List.length_cons, List.length_append, List.length_singleton]
    omega
  rw [← hQ] at hq
  have hres : blB ([111, 107, 32] ++ quoteB (bl text)) = (⟨#[111, 107, 32]⟩ : ByteArray) ++ Q := by rw [hQ, ← blB_app]; rfl
  rw [hres]
  have HQ := hide hq
  clear hq hQ hres
  go_enter Tryz.func51, Tryz.ntmps51
  go_wp2_with (go_at_call 15; refine Calls.mono (HQ.out _) ?_; rintro e w1 ⟨rfl, hb1⟩; have HB1 := hide hb1; clear hb1)
  go_ret
  exact ⟨rfl, btrans (ba1 _ _) HB1.out⟩
end Go.Proofs.YtahnnebpadbopaaGreatDoor
/- What lives32's script comes to, plainly. -/
namespace Go.Proofs.YtahnnebpadbopaaGreatDoor
open Go.RowKit

def scL : List UInt8 := [112, 117, 116, 32, 34, 97, 34, 32, 34, 120, 121, 34, 10, 103, 101, 116, 32, 34, 97, 34, 10]
def lvS1 : Stp := ⟨1, ⟨#[97]⟩, ⟨#[]⟩, ⟨#[120, 121]⟩, 0, []⟩
def lvS2 : Stp := ⟨2, ⟨#[97]⟩, ⟨#[]⟩, ⟨#[]⟩, 0, []⟩
def lvD0 : Dsk := ⟨40, [], [], -1, false⟩
def lvD1 : Dsk := (putD lvD0 ⟨#[97]⟩ 0 2 ⟨#[120, 121]⟩).1
theorem lv_parse : parseB scL = ([lvS1, lvS2], 2, 0) := by decide +kernel
theorem lv_make : makeW 40 24 = (lvD0, 24, 0) := by decide +kernel
theorem lv_put : putD lvD0 ⟨#[97]⟩ 0 2 ⟨#[120, 121]⟩ = (lvD1, 0) := by
  have : (putD lvD0 ⟨#[97]⟩ 0 2 ⟨#[120, 121]⟩).2 = 0 := by decide +kernel
  exact Prod.ext rfl this
theorem lv_get : bodyD lvD1 ⟨#[97]⟩ true = (0, ⟨#[120, 121]⟩, 0) := by decide +kernel
theorem lv_w0 : worldE lvD0 24 = 0 := by decide +kernel
theorem lv_w1 : worldE lvD1 24 = 0 := by decide +kernel
theorem lv_may : mayB ⟨#[97]⟩ = true := by decide +kernel
theorem lv_files : filesW lvD1 24 = ([⟨#[97]⟩], 0) := by decide +kernel
theorem lv_sz0 : SzD lvD0 := ⟨by decide, by decide, by decide, by decide, by decide⟩
theorem lv_sz1 : SzD lvD1 := ⟨by decide +kernel, by decide +kernel, by decide +kernel, by decide +kernel, by decide +kernel⟩
end Go.Proofs.YtahnnebpadbopaaGreatDoor
