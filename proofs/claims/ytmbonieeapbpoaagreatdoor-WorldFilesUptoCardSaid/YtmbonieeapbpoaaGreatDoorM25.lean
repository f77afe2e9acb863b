/- Lemmas for the row: FsR, FsS, FreeA, WlA, WlB, FsT, FsU. -/
import Derived.Test.YtmbonieeapbpoaaGreatDoorM04
import Derived.Test.YtmbonieeapbpoaaGreatDoorM06
import Derived.Test.YtmbonieeapbpoaaGreatDoorM21
import Derived.Test.YtmbonieeapbpoaaGreatDoorM22
import Derived.Test.YtmbonieeapbpoaaGreatDoorM23
import Derived.Test.YtmbonieeapbpoaaGreatDoorM24
import Derived.Deep.RegionLaw
import Derived.Lib.QuietBelow
import Derived.Lib.SliceRun
set_option linter.unusedVariables false
set_option linter.unusedSimpArgs false
/- Walks: disk.Make, world.budget, Check, own, Make. -/
namespace Go.Proofs.YtmbonieeapbpoaaGreatDoor
open Go.RowKit

set_option maxRecDepth 100000 in
set_option maxHeartbeats 4000000 in
theorem dmake_any (n : Int) (w : World) : Calls Tryz.prog 18 #[.int .i64 n] w fun e w' => (∃ v, e = .returned (.tuple #[v, .int .i64 (makeD n).2]) ∧ DvQ w' v (makeD n).1) ∧ Below w.heap.size w w' := by
  have hq : ∀ (W : World) (d : Dsk), d.exts = [] → d.waits = [] → DvQ W (.agg #[.int .i64 d.size, .slice none 0 0, .slice none 0 0, .int .i64 d.fuse, .bool d.down]) d := fun W d h1 h2 => ⟨none, 0, none, 0, by rw [h1, h2]; rfl, by rw [h1]; exact World.ownsRow_nil _ _ _ _, by rw [h2]; exact World.ownsRow_nil _ _ _ _⟩
  have HQ := hide hq
  clear hq
  by_cases h1 : n < 0
  · have HM := hide (show makeD n = (zeroD, 1) by unfold makeD; rw [if_pos (.inl h1)])
    go_enter Tryz.func18, Tryz.ntmps18
    go_wp2_with fail
    refine bodyPost_ret (v := .tuple #[_, .int .i64 _]) (res_d2 Tryz.results18 (Bk.new _ _ _) rfl rfl) rfl ?_
    exact ⟨⟨_, by rw [HM.out], by rw [HM.out]; exact HQ.out _ zeroD rfl rfl⟩, ba1 _ _⟩
  · by_cases h2 : 16384 < n
    · have HM := hide (show makeD n = (zeroD, 1) by unfold makeD; rw [if_pos (.inr h2)])
      go_enter Tryz.func18, Tryz.ntmps18
      go_wp2_with fail
      refine bodyPost_ret (v := .tuple #[_, .int .i64 _]) (res_d2 Tryz.results18 (Bk.new _ _ _) rfl rfl) rfl ?_
      exact ⟨⟨_, by rw [HM.out], by rw [HM.out]; exact HQ.out _ zeroD rfl rfl⟩, ba1 _ _⟩
    · have HM := hide (show makeD n = (⟨n, [], [], -1, false⟩, 0) by unfold makeD; rw [if_neg (by omega)])
      go_enter Tryz.func18, Tryz.ntmps18
      go_wp2_with fail
      refine bodyPost_ret (v := .tuple #[_, .int .i64 _]) (res_d2 Tryz.results18 (Bk.new _ _ _) rfl rfl) rfl ?_
      exact ⟨⟨_, by rw [HM.out], by rw [HM.out]; exact HQ.out _ ⟨n, [], [], -1, false⟩ rfl rfl⟩, ba1 _ _⟩
theorem wbudget_any (n : Int) (w : World) : Calls Tryz.prog 19 #[.int .i64 n] w fun e w' => e = .returned (.int .i64 (budgetE n)) ∧ w' = w := by
  by_cases h1 : n < 24
  · have hb : budgetE n = 9 := by unfold budgetE; rw [if_pos h1]
    rw [hb]
    clear hb
    go_enter Tryz.func19, Tryz.ntmps19
    go_wp2_with fail
    go_ret
    exact ⟨rfl, rfl⟩
  · by_cases h2 : 256 < n
    · have hb : budgetE n = 1 := by unfold budgetE; rw [if_neg h1, if_pos h2]
      rw [hb]
      clear hb
      go_enter Tryz.func19, Tryz.ntmps19
      go_wp2_with fail
      go_ret
      exact ⟨rfl, rfl⟩
    · have hb : budgetE n = 0 := by unfold budgetE; rw [if_neg h1, if_neg h2]
      rw [hb]
      clear hb
      go_enter Tryz.func19, Tryz.ntmps19
      go_wp2_with fail
      go_ret
      exact ⟨rfl, rfl⟩
/-- A world's value, whose rows are read. -/
def WvR (w : World) (B : Nat) (V : Value) (d : Dsk) (b : Int) : Prop := ∃ AE cE AW cW, V = .agg #[.int .i64 d.size, .slice AE d.exts.length cE, .slice AW d.waits.length cW, .int .i64 d.fuse, .bool d.down, .int .i64 b] ∧ Rd w B AE (flatE d.exts) ∧ Rd w B AW (flatW d.waits)
/-- A world's value, whose rows are its own. -/
def WvQ (w : World) (V : Value) (d : Dsk) (b : Int) : Prop := ∃ AE cE AW cW, V = .agg #[.int .i64 d.size, .slice AE d.exts.length cE, .slice AW d.waits.length cW, .int .i64 d.fuse, .bool d.down, .int .i64 b] ∧ w.ownsRow 0 49 2 (.slice AE d.exts.length cE) d.exts.length (flatE d.exts) ∧ w.ownsRow 0 77 3 (.slice AW d.waits.length cW) d.waits.length (flatW d.waits)
theorem WvQ.r {w : World} {V : Value} {d : Dsk} {b : Int} (h : WvQ w V d b) : WvR w w.heap.size V d b := by
  obtain ⟨AE, cE, AW, cW, rfl, h1, h2⟩ := h
  exact ⟨AE, cE, AW, cW, rfl, own_rdk h1, own_rdk h2⟩
theorem WvQ.keep {w w' : World} {V : Value} {d : Dsk} {b : Int} (h : WvQ w V d b) (hb : Below w.heap.size w w') : WvQ w' V d b := by
  obtain ⟨AE, cE, AW, cW, rfl, h1, h2⟩ := h
  exact ⟨AE, cE, AW, cW, rfl, own_keep h1 hb, own_keep h2 hb⟩
theorem WvR.below {w w' : World} {B : Nat} {V : Value} {d : Dsk} {b : Int} (h : WvR w B V d b) (hb : Below B w w') : WvR w' B V d b := by
  obtain ⟨AE, cE, AW, cW, rfl, h1, h2⟩ := h
  exact ⟨AE, cE, AW, cW, rfl, h1.below hb, h2.below hb⟩
theorem WvR.more {w : World} {B B' : Nat} {V : Value} {d : Dsk} {b : Int} (h : WvR w B V d b) (hB : B ≤ B') : WvR w B' V d b := by
  obtain ⟨AE, cE, AW, cW, rfl, h1, h2⟩ := h
  exact ⟨AE, cE, AW, cW, rfl, h1.more hB, h2.more hB⟩
set_option maxRecDepth 100000 in
set_option maxHeartbeats 4000000 in
theorem wcheck_any (V : Value) (d : Dsk) (b : Int) (w : World) (hv : WvR w w.heap.size V d b) (hz : SzD d) :
    Calls Tryz.prog 12 #[V] w fun e w' => e = .returned (.int .i64 (worldE d b)) ∧ Below w.heap.size w w' := by
  obtain ⟨AE, cE, AW, cW, rfl, hE, hW⟩ := hv
  have hck := fun (W : World) (h : Below w.heap.size w W) => check_disk (.agg #[.int .i64 d.size, .slice AE d.exts.length cE, .slice AW d.waits.length cW, .int .i64 d.fuse, .bool d.down]) d W ⟨AE, cE, AW, cW, rfl, (hE.below h).more h.size, (hW.below h).more h.size⟩ hz.exts hz.waits hz.ext hz.wait
  obtain ⟨W0, hW0⟩ : ∃ W0, W0 = w.alloc (.cells #[.int .i64 d.size, .slice AE d.exts.length cE, .slice AW d.waits.length cW, .int .i64 d.fuse, .bool d.down, .int .i64 b] 27) := ⟨_, rfl⟩
  have hb0 : Below w.heap.size w W0 := by rw [hW0]; exact ba1 _ _
  have kp0 : Bk W0 w.heap.size 27 #[.int .i64 d.size, .slice AE d.exts.length cE, .slice AW d.waits.length cW, .int .i64 d.fuse, .bool d.down, .int .i64 b] := by rw [hW0]; exact Bk.new _ _ _
  have p0 := kp0.cell 0
  have p1 := kp0.cell 1
  have p2 := kp0.cell 2
  have p3 := kp0.cell 3
  have p4 := kp0.cell 4
  have lp := kp0.lt
  obtain ⟨c, hc⟩ : ∃ c, c = checkD d := ⟨_, rfl⟩
  have hcc : worldE d b = if c ≠ 0 then 2 else if budgetE b ≠ 0 then 2 else 0 := by
    rw [hc]
    unfold worldE checkD budgetE
    by_cases h : checkB d = true
    · rw [if_pos h, h]
      by_cases h1 : b < 24
      · rw [if_pos h1, decide_eq_false (show ¬ 24 ≤ b by omega)]; simp
      · by_cases h2 : 256 < b
        · rw [if_neg h1, if_pos h2, decide_eq_false (show ¬ b ≤ 256 by omega)]; simp
        · rw [if_neg h1, if_neg h2, decide_eq_true (show b ≤ 256 by omega), decide_eq_true (show 24 ≤ b by omega)]; simp
    · rw [if_neg h]; simp [h]
  rw [← hc] at hck
  obtain ⟨B, hB⟩ : ∃ B, B = budgetE b := ⟨_, rfl⟩
  have hbu := fun W => wbudget_any b W
  rw [← hB] at hbu hcc
  have HCk := hide (hck W0 hb0)
  have HW0 := hide hW0
  have HB0 := hide hb0
  have HKp := hide kp0
  have HBu := hide hbu
  have HCc := hide hcc
  clear hE hW hck hW0 hb0 kp0 hbu hcc hc hB
  by_cases h1 : c = 0
  · by_cases h2 : B = 0
    · subst h1 h2
      have HRe := hide (show worldE d b = 0 by rw [HCc.out]; rfl)
      clear HCc
      go_enter Tryz.func12, Tryz.ntmps12
      go_wp2_with (first
        | (go_at_call 24; rw [← HW0.out]; refine Calls.mono HCk.out ?_; rintro e w1 ⟨rfl, hb1⟩; have k1 := HKp.out.keep hb1; have q5 := k1.cell 5; have HB1 := hide (HB0.out.trans (hb1.mono HB0.out.size)); clear hb1 k1)
        | (go_at_call 19; refine Calls.mono (HBu.out _) ?_; rintro e w2 ⟨rfl, ew⟩; obtain rfl : w1 = w2 := ew.symm))
      go_ret
      exact ⟨by rw [HRe.out]; rfl, HB1.out⟩
    · subst h1
      have HRe := hide (show worldE d b = 2 by rw [HCc.out, if_neg (by simp), if_pos h2])
      have h2b : (B == 0) = false := by simpa using h2
      clear HCc
      go_enter Tryz.func12, Tryz.ntmps12
      go_wp2_with (first
        | (go_at_call 24; rw [← HW0.out]; refine Calls.mono HCk.out ?_; rintro e w1 ⟨rfl, hb1⟩; have k1 := HKp.out.keep hb1; have q5 := k1.cell 5; have HB1 := hide (HB0.out.trans (hb1.mono HB0.out.size)); clear hb1 k1)
        | (go_at_call 19; refine Calls.mono (HBu.out _) ?_; rintro e w2 ⟨rfl, ew⟩; obtain rfl : w1 = w2 := ew.symm))
      go_ret
      exact ⟨by rw [HRe.out]; rfl, HB1.out⟩
  · have HRe := hide (show worldE d b = 2 by rw [HCc.out, if_pos h1])
    have h1b : (c == 0) = false := by simpa using h1
    clear HCc
    go_enter Tryz.func12, Tryz.ntmps12
    go_wp2_with (first
      | (go_at_call 24; rw [← HW0.out]; refine Calls.mono HCk.out ?_; rintro e w1 ⟨rfl, hb1⟩; have HB1 := hide (HB0.out.trans (hb1.mono HB0.out.size)); clear hb1))
    go_ret
    exact ⟨by rw [HRe.out]; rfl, HB1.out⟩
set_option maxRecDepth 100000 in
/-- A world in a cell of its own. -/
theorem res_w1 {fn : Func} {p : Tmp} {W : World} {g : Nat} {c0 c1 c2 c3 c4 c5 : Value} {tmps : Array Value} (hf : fn.results = #[.cell p 27]) (h : Bk W g 27 #[c0, c1, c2, c3, c4, c5]) (h2 : tmps.getD p undef = .pointer (some ⟨g, 0, none⟩)) :
    (results fn tmps).run Tryz.prog W = .ok (.agg #[c0, c1, c2, c3, c4, c5]) W := by
  have d0 : W.cell? ⟨g, 0, none⟩ = some c0 := h.cell 0
  have d1 : W.cell? ⟨g, 1, none⟩ = some c1 := h.cell 1
  have d2 : W.cell? ⟨g, 2, none⟩ = some c2 := h.cell 2
  have d3 : W.cell? ⟨g, 3, none⟩ = some c3 := h.cell 3
  have d4 : W.cell? ⟨g, 4, none⟩ = some c4 := h.cell 4
  have d5 : W.cell? ⟨g, 5, none⟩ = some c5 := h.cell 5
  rw [Array.getD_eq_getD_getElem?] at h2
  simp [results, hf, go_sem, h2, asAddr, d0, d1, d2, d3, d4, d5]
set_option maxRecDepth 100000 in
theorem res_w2 {fn : Func} {p q : Tmp} {W : World} {g : Nat} {c0 c1 c2 c3 c4 c5 : Value} {z : Int} {tmps : Array Value} (hf : fn.results = #[.cell p 27, .tmp q]) (h : Bk W g 27 #[c0, c1, c2, c3, c4, c5]) (h2 : tmps.getD p undef = .pointer (some ⟨g, 0, none⟩)) (h3 : tmps.getD q undef = .int .i64 z) :
    (results fn tmps).run Tryz.prog W = .ok (.tuple #[.agg #[c0, c1, c2, c3, c4, c5], .int .i64 z]) W := by
  have d0 : W.cell? ⟨g, 0, none⟩ = some c0 := h.cell 0
  have d1 : W.cell? ⟨g, 1, none⟩ = some c1 := h.cell 1
  have d2 : W.cell? ⟨g, 2, none⟩ = some c2 := h.cell 2
  have d3 : W.cell? ⟨g, 3, none⟩ = some c3 := h.cell 3
  have d4 : W.cell? ⟨g, 4, none⟩ = some c4 := h.cell 4
  have d5 : W.cell? ⟨g, 5, none⟩ = some c5 := h.cell 5
  rw [Array.getD_eq_getD_getElem?] at h2 h3
  simp [results, hf, go_sem, h2, h3, asAddr, d0, d1, d2, d3, d4, d5]
set_option maxRecDepth 100000 in
theorem res_w3 {fn : Func} {p q r : Tmp} {W : World} {g : Nat} {c0 c1 c2 c3 c4 c5 : Value} {t : ByteArray} {z : Int} {tmps : Array Value} (hf : fn.results = #[.cell p 27, .tmp q, .tmp r]) (h : Bk W g 27 #[c0, c1, c2, c3, c4, c5]) (h2 : tmps.getD p undef = .pointer (some ⟨g, 0, none⟩)) (h3 : tmps.getD q undef = .string t) (h4 : tmps.getD r undef = .int .i64 z) :
    (results fn tmps).run Tryz.prog W = .ok (.tuple #[.agg #[c0, c1, c2, c3, c4, c5], .string t, .int .i64 z]) W := by
  have d0 : W.cell? ⟨g, 0, none⟩ = some c0 := h.cell 0
  have d1 : W.cell? ⟨g, 1, none⟩ = some c1 := h.cell 1
  have d2 : W.cell? ⟨g, 2, none⟩ = some c2 := h.cell 2
  have d3 : W.cell? ⟨g, 3, none⟩ = some c3 := h.cell 3
  have d4 : W.cell? ⟨g, 4, none⟩ = some c4 := h.cell 4
  have d5 : W.cell? ⟨g, 5, none⟩ = some c5 := h.cell 5
  rw [Array.getD_eq_getD_getElem?] at h2 h3 h4
  simp [results, hf, go_sem, h2, h3, h4, asAddr, d0, d1, d2, d3, d4, d5]
theorem WvQ.put6 {w : World} {V : Value} {d : Dsk} {b : Int} {g : Nat} {z : Array Value} (h : WvQ w V d b) (hr : Bk w g 27 z) (a0 a1 a2 a3 a4 a5 : Value) : WvQ (put6 w g a0 a1 a2 a3 a4 a5) V d b := by
  obtain ⟨AE, cE, AW, cW, rfl, h1, h2⟩ := h
  exact ⟨AE, cE, AW, cW, rfl, own_put6 h1 (fun e => own_ne h1 hr (by decide) e.symm) _ _ _ _ _ _, own_put6 h2 (fun e => own_ne h2 hr (by decide) e.symm) _ _ _ _ _ _⟩
theorem WvQ.pt5 {w : World} {V : Value} {d : Dsk} {b : Int} {g : Nat} {z : Array Value} (h : WvQ w V d b) (hr : Bk w g 27 z) (a0 a1 a2 a3 a4 : Value) : WvQ (pt5 w g a0 a1 a2 a3 a4) V d b := by
  obtain ⟨AE, cE, AW, cW, rfl, h1, h2⟩ := h
  exact ⟨AE, cE, AW, cW, rfl, own_pt5 h1 (fun e => own_ne h1 hr (by decide) e.symm) _ _ _ _ _, own_pt5 h2 (fun e => own_ne h2 hr (by decide) e.symm) _ _ _ _ _⟩
theorem pt5_bk6 {w : World} {b : Nat} {t : TypeId} {z0 z1 z2 z3 z4 z5 : Value} (h : Bk w b t #[z0, z1, z2, z3, z4, z5]) (a0 a1 a2 a3 a4 : Value) : Bk (pt5 w b a0 a1 a2 a3 a4) b t #[a0, a1, a2, a3, a4, z5] := ((((h.set_ 0 a0).set_ 1 a1).set_ 2 a2).set_ 3 a3).set_ 4 a4
set_option maxRecDepth 100000 in
set_option maxHeartbeats 4000000 in
theorem wown_any (V : Value) (d : Dsk) (b : Int) (w : World) (hv : WvR w w.heap.size V d b) (hz : SzD d) :
    Calls Tryz.prog 27 #[V] w fun e w' => (∃ V', e = .returned V' ∧ WvQ w' V' d b) ∧ Below w.heap.size w w' := by
  obtain ⟨AE, cE, AW, cW, rfl, hE, hW⟩ := hv
  have hck := fun (W : World) (h : Below w.heap.size w W) => own_any (.agg #[.int .i64 d.size, .slice AE d.exts.length cE, .slice AW d.waits.length cW, .int .i64 d.fuse, .bool d.down]) d W ⟨AE, cE, AW, cW, rfl, (hE.below h).more h.size, (hW.below h).more h.size⟩ hz.exts hz.waits
  obtain ⟨W0, hW0⟩ : ∃ W0, W0 = (w.alloc (.cells #[.int .i64 d.size, .slice AE d.exts.length cE, .slice AW d.waits.length cW, .int .i64 d.fuse, .bool d.down, .int .i64 b] 27)).alloc (.cells #[.int .i64 0, .slice none 0 0, .slice none 0 0, .int .i64 0, .bool false, .int .i64 0] 27) := ⟨_, rfl⟩
  have hb0 : Below w.heap.size w W0 := by rw [hW0]; exact ba2 _ _ _
  have kp0 : Bk W0 w.heap.size 27 #[.int .i64 d.size, .slice AE d.exts.length cE, .slice AW d.waits.length cW, .int .i64 d.fuse, .bool d.down, .int .i64 b] := by rw [hW0]; exact (Bk.new _ _ _).alloc _
  have kr0 : Bk W0 (w.heap.size + 1) 27 #[.int .i64 0, .slice none 0 0, .slice none 0 0, .int .i64 0, .bool false, .int .i64 0] := by rw [hW0]; exact Bk.new1 _ _ _ _
  have p0 := kp0.cell 0
  have p1 := kp0.cell 1
  have p2 := kp0.cell 2
  have p3 := kp0.cell 3
  have p4 := kp0.cell 4
  have lp := kp0.lt
  have HCk := hide (hck W0 hb0)
  have HW0 := hide hW0
  have HB0 := hide hb0
  have HKp := hide kp0
  have HKr := hide kr0
  clear hE hW hck hW0 hb0 kp0 kr0
  go_enter Tryz.func27, Tryz.ntmps27
  go_upto_region 2 with (go_at_call 44; rw [← HW0.out]; refine Calls.mono HCk.out ?_; rintro e w1 ⟨⟨A, c, A', c', rfl, h1, h2⟩, hb1⟩; have k1 := HKp.out.keep hb1; have k2 := HKr.out.keep hb1; have f0 := k1.free 0; have f1 := k1.free 1; have f2 := k1.free 2; have f3 := k1.free 3; have f4 := k1.free 4; have x0 := k1.cell 0; have x1 := k1.cell 1; have x2 := k1.cell 2; have x3 := k1.cell 3; have x4 := k1.cell 4; have l1 := k1.lt; have HQ := hide (show WvQ w1 (.agg #[.int .i64 d.size, .slice A d.exts.length c, .slice A' d.waits.length c', .int .i64 d.fuse, .bool d.down, .int .i64 b]) d b from ⟨A, c, A', c', rfl, own_base h1 (fun _ _ => Nat.zero_le _), own_base h2 (fun _ _ => Nat.zero_le _)⟩); have HK1 := hide k1; have HK2 := hide k2; have HB1 := hide (HB0.out.trans (hb1.mono HB0.out.size)); clear hb1 k1 k2 h1 h2)
  obtain ⟨W5, hW5⟩ : ∃ W5, W5 = pt5 w1 w.heap.size (.int .i64 d.size) (.slice A d.exts.length c) (.slice A' d.waits.length c') (.int .i64 d.fuse) (.bool d.down) := ⟨_, rfl⟩
  rw [show (((((w1.setCell ⟨w.heap.size, 0, none⟩ (.int .i64 d.size)).setCell ⟨w.heap.size, 1, none⟩ (.slice A d.exts.length c)).setCell ⟨w.heap.size, 2, none⟩ (.slice A' d.waits.length c')).setCell ⟨w.heap.size, 3, none⟩ (.int .i64 d.fuse)).setCell ⟨w.heap.size, 4, none⟩ (.bool d.down)) = W5 from hW5.symm]
  have k5 := pt5_bk6 HK1.out (.int .i64 d.size) (.slice A d.exts.length c) (.slice A' d.waits.length c') (.int .i64 d.fuse) (.bool d.down)
  have k6 := HK2.out.fr (pt5_fr w1 w.heap.size (.int .i64 d.size) (.slice A d.exts.length c) (.slice A' d.waits.length c') (.int .i64 d.fuse) (.bool d.down)) (by omega)
  have hq5 := HQ.out.pt5 HK1.out (.int .i64 d.size) (.slice A d.exts.length c) (.slice A' d.waits.length c') (.int .i64 d.fuse) (.bool d.down)
  have hb5 : Below w.heap.size w (pt5 w1 w.heap.size (.int .i64 d.size) (.slice A d.exts.length c) (.slice A' d.waits.length c') (.int .i64 d.fuse) (.bool d.down)) := HB1.out.trans ((pt5_fr w1 w.heap.size _ _ _ _ _).toBelowB (fun k hk => by subst hk; exact Nat.le_refl _) HB1.out.size)
  rw [← hW5] at k5 k6 hq5 hb5
  have y0 := k5.cell 0
  have y1 := k5.cell 1
  have y2 := k5.cell 2
  have y3 := k5.cell 3
  have y4 := k5.cell 4
  have y5 := k5.cell 5
  have z0 := k6.cell 0
  have z1 := k6.cell 1
  have z2 := k6.cell 2
  have z3 := k6.cell 3
  have z4 := k6.cell 4
  have z5 := k6.cell 5
  have g0 := k6.free 0
  have g1 := k6.free 1
  have g2 := k6.free 2
  have g3 := k6.free 3
  have g4 := k6.free 4
  have g5 := k6.free 5
  have l5 := k5.lt
  have l6 := k6.lt
  have HK6 := hide k6
  have HQ5 := hide hq5
  have HB5 := hide hb5
  clear k5 k6 hq5 hb5 hW5 x0 x1 x2 x3 x4 f0 f1 f2 f3 f4
  go_wp2_with fail
  refine bodyPost_ret (v := .agg #[_, _, _, _, _, _]) (res_w1 Tryz.results27 (put6_bk HK6.out _ _ _ _ _ _) rfl) rfl ?_
  exact ⟨⟨_, rfl, HQ5.out.put6 HK6.out _ _ _ _ _ _⟩, put6_below HB5.out (by omega) _ _ _ _ _ _⟩
set_option maxRecDepth 100000 in
set_option maxHeartbeats 4000000 in
theorem wmake_any (size n : Int) (w : World) :
    Calls Tryz.prog 7 #[.int .i64 size, .int .i64 n] w fun e w' => (∃ V, e = .returned (.tuple #[V, .int .i64 (makeW size n).2.2]) ∧ WvQ w' V (makeW size n).1 (makeW size n).2.1) ∧ Below w.heap.size w w' := by
  obtain ⟨W0, hW0⟩ : ∃ W0, W0 = w.alloc (.cells #[.int .i64 0, .slice none 0 0, .slice none 0 0, .int .i64 0, .bool false, .int .i64 0] 27) := ⟨_, rfl⟩
  have hb0 : Below w.heap.size w W0 := by rw [hW0]; exact ba1 _ _
  have kr0 : Bk W0 w.heap.size 27 #[.int .i64 0, .slice none 0 0, .slice none 0 0, .int .i64 0, .bool false, .int .i64 0] := by rw [hW0]; exact Bk.new _ _ _
  have hm := dmake_any size W0
  obtain ⟨dm, zm, hdm⟩ : ∃ dm zm, makeD size = (dm, zm) := ⟨_, _, rfl⟩
  rw [hdm] at hm
  have hbu := fun W => wbudget_any n W
  obtain ⟨B, hB⟩ : ∃ B, B = budgetE n := ⟨_, rfl⟩
  rw [← hB] at hbu
  have hmw : makeW size n = if zm ≠ 0 then (zeroD, 0, zm) else if B ≠ 0 then (zeroD, 0, B) else (dm, n, 0) := by unfold makeW; rw [hdm, ← hB]
  have HM := hide hm
  have HBu := hide hbu
  have HMw := hide hmw
  have HW0 := hide hW0
  have HB0 := hide hb0
  have HR0 := hide kr0
  have hzQ : ∀ W, WvQ W (.agg #[.int .i64 0, .slice none 0 0, .slice none 0 0, .int .i64 0, .bool false, .int .i64 0]) zeroD 0 := fun W => ⟨none, 0, none, 0, rfl, World.ownsRow_nil _ _ _ _, World.ownsRow_nil _ _ _ _⟩
  have HZq := hide hzQ
  clear hm hbu hmw hW0 hb0 kr0 hdm hB hzQ
  go_enter Tryz.func7, Tryz.ntmps7
  go_upto_region 2 with (go_at_call 18; rw [← HW0.out]; refine Calls.mono HM.out ?_; rintro e w1 ⟨⟨v, rfl, hdq⟩, hb1⟩; obtain ⟨AE, cE, AW, cW, rfl, h1, h2⟩ := hdq; have HR1 := hide (HR0.out.keep hb1); have H1 := hide h1; have H2 := hide h2; have HB1 := hide (HB0.out.trans (hb1.mono HB0.out.size)); clear hb1 h1 h2)
  obtain ⟨W2, hW2⟩ : ∃ W2, W2 = w1.alloc (.cells #[.int .i64 dm.size, .slice AE dm.exts.length cE, .slice AW dm.waits.length cW, .int .i64 dm.fuse, .bool dm.down] 25) := ⟨_, rfl⟩
  rw [← hW2]
  have kx : Bk W2 w1.heap.size 25 #[.int .i64 dm.size, .slice AE dm.exts.length cE, .slice AW dm.waits.length cW, .int .i64 dm.fuse, .bool dm.down] := by rw [hW2]; exact Bk.new _ _ _
  have kr2 := HR1.out.keep (show Below w1.heap.size w1 W2 by rw [hW2]; exact ba1 _ _)
  have hb2 : Below w.heap.size w W2 := by rw [hW2]; exact HB1.out.trans ((ba1 _ _).mono HB1.out.size)
  have hq2 : WvQ W2 (.agg #[.int .i64 dm.size, .slice AE dm.exts.length cE, .slice AW dm.waits.length cW, .int .i64 dm.fuse, .bool dm.down, .int .i64 n]) dm n := ⟨AE, cE, AW, cW, rfl, own_keep H1.out (by rw [hW2]; exact ba1 _ _), own_keep H2.out (by rw [hW2]; exact ba1 _ _)⟩
  have y0 := kx.cell 0
  have y1 := kx.cell 1
  have y2 := kx.cell 2
  have y3 := kx.cell 3
  have y4 := kx.cell 4
  have ly := kx.lt
  have z0 := kr2.cell 0
  have z1 := kr2.cell 1
  have z2 := kr2.cell 2
  have z3 := kr2.cell 3
  have z4 := kr2.cell 4
  have z5 := kr2.cell 5
  have g0 := kr2.free 0
  have g1 := kr2.free 1
  have g2 := kr2.free 2
  have g3 := kr2.free 3
  have g4 := kr2.free 4
  have g5 := kr2.free 5
  have lr := kr2.lt
  have HR2 := hide kr2
  have HB2 := hide hb2
  have HQ2 := hide hq2
  clear hW2 kx kr2 hb2 hq2 H1 H2
  by_cases h1 : zm = 0
  · subst h1
    by_cases h2 : B = 0
    · subst h2
      have HRe := hide (show makeW size n = (dm, n, 0) by rw [HMw.out]; rfl)
      clear HMw
      go_wp2_with (go_at_call 19; refine Calls.mono (HBu.out _) ?_; rintro e w3 ⟨rfl, ew⟩; obtain rfl : W2 = w3 := ew.symm)
      refine bodyPost_ret (v := .tuple #[.agg #[_, _, _, _, _, _], .int .i64 0]) (res_w2 Tryz.results7 (put6_bk HR2.out _ _ _ _ _ _) rfl rfl) rfl ?_
      exact ⟨⟨_, by rw [HRe.out], by rw [HRe.out]; exact HQ2.out.put6 HR2.out _ _ _ _ _ _⟩, put6_below HB2.out (Nat.le_refl _) _ _ _ _ _ _⟩
    · have h2b : (B == 0) = false := by simpa using h2
      have HRe := hide (show makeW size n = (zeroD, 0, B) by rw [HMw.out, if_neg (by simp), if_pos h2])
      clear HMw
      go_wp2_with (go_at_call 19; refine Calls.mono (HBu.out _) ?_; rintro e w3 ⟨rfl, ew⟩; obtain rfl : W2 = w3 := ew.symm)
      refine bodyPost_ret (v := .tuple #[.agg #[_, _, _, _, _, _], .int .i64 B]) (res_w2 Tryz.results7 (put6_bk HR2.out _ _ _ _ _ _) rfl rfl) rfl ?_
      exact ⟨⟨_, by rw [HRe.out], by rw [HRe.out]; exact HZq.out _⟩, put6_below HB2.out (Nat.le_refl _) _ _ _ _ _ _⟩
  · have h1b : (zm == 0) = false := by simpa using h1
    have HRe := hide (show makeW size n = (zeroD, 0, zm) by rw [HMw.out, if_pos h1])
    clear HMw
    go_wp2_with fail
    refine bodyPost_ret (v := .tuple #[.agg #[_, _, _, _, _, _], .int .i64 zm]) (res_w2 Tryz.results7 (put6_bk HR2.out _ _ _ _ _ _) rfl rfl) rfl ?_
    exact ⟨⟨_, by rw [HRe.out], by rw [HRe.out]; exact HZq.out _⟩, put6_below HB2.out (Nat.le_refl _) _ _ _ _ _ _⟩
end Go.Proofs.YtmbonieeapbpoaaGreatDoor
/- Walks: phases.may, May; world.users. -/
namespace Go.Proofs.YtmbonieeapbpoaaGreatDoor
open Go.RowKit

set_option maxRecDepth 100000 in
set_option maxHeartbeats 4000000 in
theorem may1_any (s : ByteArray) (w : World) : Calls Tryz.prog 63 #[.string s] w fun e w' => e = .returned (.bool (!mayB s)) ∧ w' = w := by
  by_cases h0 : s.size = 0
  · have hE : s.toList.isEmpty = true := by rw [isEmpty_str, decide_eq_true h0]
    have hm : mayB s = false := by unfold mayB namedB; simp [h0]
    rw [hm]
    clear hm h0
    go_enter Tryz.func63, Tryz.ntmps63
    go_wp2_with fail
    go_ret
    exact ⟨rfl, rfl⟩
  · have hE : s.toList.isEmpty = false := by rw [isEmpty_str, decide_eq_false h0]
    by_cases h16 : (16 : Int) < (s.size : Int)
    · have hm : mayB s = false := by unfold mayB namedB; rw [decide_eq_false (show ¬ s.size ≤ 16 by omega)]; simp
      rw [hm]
      clear hm h0
      go_enter Tryz.func63, Tryz.ntmps63
      go_wp2_with fail
      go_ret
      exact ⟨rfl, rfl⟩
    · obtain ⟨m, hm1⟩ : ∃ m, s.size = m + 1 := ⟨s.size - 1, by omega⟩
      have hml : m < s.size := by omega
      have h0l : 0 < s.size := by omega
      have q0 : (s[0]'h0l).toNat = byt s 0 := byt_of s h0l
      have q1 : (s[m]'hml).toNat = byt s m := byt_of s hml
      have hw : IntKind.i64.wrap ((s.size : Int) - 1) = (m : Int) := by rw [IntWalk.i64_in _ ⟨by omega, by omega⟩]; omega
      have hsz : (s.size : Int) - 1 = (m : Int) := by omega
      have hmb : mayB s = (decide (byt s 0 ≠ 61) && decide (byt s 0 ≠ 126) && decide (byt s m ≠ 0)) := by
        unfold mayB namedB
        rw [decide_eq_true (show 0 < s.size by omega), decide_eq_true (show s.size ≤ 16 by omega), show s.size - 1 = m by omega]
        rfl
      have HM := hide hmb
      obtain ⟨b0, hb0⟩ : ∃ b0, b0 = byt s 0 := ⟨_, rfl⟩
      obtain ⟨b1, hb1⟩ : ∃ b1, b1 = byt s m := ⟨_, rfl⟩
      rw [← hb0] at q0
      rw [← hb1] at q1
      have HM2 := hide (show mayB s = (decide (b0 ≠ 61) && decide (b0 ≠ 126) && decide (b1 ≠ 0)) by rw [HM.out, hb0, hb1])
      have hmi : (m : Int) < (s.size : Int) := by omega
      have HM1 := hide hm1
      clear hmb HM hb0 hb1 hm1 h0
      by_cases e1 : b0 = 61
      · have t1 : ((b0 : Int) == 61) = true := by subst e1; rfl
        have HR := hide (show mayB s = false by rw [HM2.out, e1]; rfl)
        clear e1 HM2
        go_enter Tryz.func63, Tryz.ntmps63
        go_wp2_with fail
        go_ret
        exact ⟨by rw [HR.out]; rfl, rfl⟩
      · have t1 : ((b0 : Int) == 61) = false := by rw [beq_eq_false_iff_ne]; omega
        by_cases e2 : b0 = 126
        · have t2 : ((b0 : Int) == 126) = true := by subst e2; rfl
          have HR := hide (show mayB s = false by rw [HM2.out, e2]; rfl)
          clear e1 e2 HM2
          go_enter Tryz.func63, Tryz.ntmps63
          go_wp2_with fail
          go_ret
          exact ⟨by rw [HR.out]; rfl, rfl⟩
        · have t2 : ((b0 : Int) == 126) = false := by rw [beq_eq_false_iff_ne]; omega
          by_cases e3 : b1 = 0
          · have t3 : ((b1 : Int) == 0) = true := by subst e3; rfl
            have HR := hide (show mayB s = false by rw [HM2.out, e3]; simp)
            clear e1 e2 e3 HM2
            go_enter Tryz.func63, Tryz.ntmps63
            go_wp2_with fail
            go_ret
            exact ⟨by rw [HR.out]; rfl, rfl⟩
          · have t3 : ((b1 : Int) == 0) = false := by rw [beq_eq_false_iff_ne]; omega
            have HR := hide (show mayB s = true by rw [HM2.out, decide_eq_true e1, decide_eq_true e2, decide_eq_true e3]; rfl)
            clear e1 e2 e3 HM2
            go_enter Tryz.func63, Tryz.ntmps63
            go_wp2_with fail
            go_ret
            exact ⟨by rw [HR.out]; rfl, rfl⟩
theorem index_may (A : Option Addr) (c : Nat) (xs : List ByteArray) (w : World) (hr : Rd w w.heap.size A (xs.map .string)) (hl : xs.length ≤ 1000000000) :
    Calls Tryz.prog 103 #[.slice A xs.length c, .func (.func 63) #[] #[]] w fun e w' => e = .returned (.int .i64 (idxI (fun s => !mayB s) xs)) ∧ Below w.heap.size w w' := by
  have hn := fun (s : ByteArray) (W : World) => may1_any s W
  have HN := hide hn
  have HR := hide hr
  clear hn hr
  go_enter Tryz.func103, Tryz.ntmps103
  go_wp2_with fail
  go_loopw [8] (fun i wr => ∃ k : Nat, i = .int .i64 k ∧ k ≤ xs.length ∧ wr = w ∧ Hid (∀ j y, j < k → xs[j]? = some y → (!mayB y) = false)) (fun i _ => xs.length - (intOf i).toNat)
  case atStart => exact ⟨0, rfl, by omega, rfl, hide (fun j y hj => by omega)⟩
  case round =>
    obtain ⟨k, rfl, hk, rfl, hinv⟩ := hrel
    by_cases hlt : k < xs.length
    · obtain ⟨x, hx⟩ : ∃ x, xs[k]? = some x := ⟨xs[k], by simp [hlt]⟩
      obtain ⟨b, o, rfl, _, hc⟩ := HR.out k (.string x) (by rw [List.getElem?_map, hx]; rfl)
      obtain ⟨t, ht⟩ : ∃ t, t = (!mayB x) := ⟨_, rfl⟩
      have ht1 := fun (W : World) => HN.out x W
      rw [← ht] at ht1
      have HT := hide ht1
      have HTe := hide ht
      have HX := hide hx
      clear ht1 ht hx
      cases t with
      | true =>
        go_wp2_with (go_at_call 63; refine (HT.out _).mono ?_; rintro e w1 ⟨rfl, rfl⟩)
        go_ret
        exact ⟨by rw [idxI_at hinv.out HX.out HTe.out.symm]; rfl, Below.refl _ _⟩
      | false =>
        go_wp2_with (go_at_call 63; refine (HT.out _).mono ?_; rintro e w1 ⟨rfl, rfl⟩)
        exact ⟨⟨k + 1, by simp, by omega, trivial, hide (findIdx_step hinv.out HX.out HTe.out.symm)⟩, by simp [intOf]; omega⟩
    · obtain rfl : k = xs.length := by omega
      go_wp2_with fail
      go_ret
      exact ⟨by rw [idxI_none hinv.out]; rfl, Below.refl _ _⟩
theorem contains_may (A : Option Addr) (c : Nat) (xs : List ByteArray) (w : World) (hr : Rd w w.heap.size A (xs.map .string)) (hl : xs.length ≤ 1000000000) :
    Calls Tryz.prog 62 #[.slice A xs.length c, .func (.func 63) #[] #[]] w fun e w' => e = .returned (.bool (!xs.all mayB)) ∧ Below w.heap.size w w' := by
  have hi := index_may A c xs w hr hl
  have hb : (decide ((0 : Int) ≤ idxI (fun s => !mayB s) xs)) = !xs.all mayB := by
    unfold idxI
    cases h : xs.findIdx? (fun s => !mayB s) with
    | none =>
      rw [List.findIdx?_eq_none_iff] at h
      have : xs.all mayB = true := List.all_eq_true.2 fun x hx => by simpa using h x hx
      rw [this]; rfl
    | some i =>
      obtain ⟨hk, h1, _⟩ := List.findIdx?_eq_some_iff_getElem.1 h
      have : xs.all mayB = false := by
        cases k : xs.all mayB with
        | false => rfl
        | true =>
          have := List.all_eq_true.1 k xs[i] (List.getElem_mem hk)
          rw [this] at h1; cases h1
      rw [this]
      show decide ((0 : Int) ≤ (i : Int)) = true
      exact decide_eq_true (by omega)
  obtain ⟨z, hz⟩ : ∃ z, z = idxI (fun s => !mayB s) xs := ⟨_, rfl⟩
  rw [← hz] at hi hb
  have HI := hide hi
  have HB := hide hb
  clear hi hb hz
  go_enter Tryz.func62, Tryz.ntmps62
  go_wp2_with (go_at_call 103; refine (HI.out).mono ?_; rintro e w1 ⟨rfl, hb1⟩)
  go_ret
  exact ⟨by rw [← HB.out]; rfl, hb1⟩
theorem may_any (A : Option Addr) (c : Nat) (xs : List ByteArray) (w : World) (hr : Rd w w.heap.size A (xs.map .string)) (hl : xs.length ≤ 1000000000) :
    Calls Tryz.prog 39 #[.slice A xs.length c] w fun e w' => e = .returned (.bool (xs.all mayB)) ∧ Below w.heap.size w w' := by
  have hi := contains_may A c xs w hr hl
  have HI := hide hi
  clear hi hr
  go_enter Tryz.func39, Tryz.ntmps39
  go_wp2_with (go_at_call 62; refine (HI.out).mono ?_; rintro e w1 ⟨rfl, hb1⟩)
  go_ret
  exact ⟨by simp, hb1⟩
theorem May_any (s : ByteArray) (w : World) : Calls Tryz.prog 17 #[.string s] w fun e w' => e = .returned (.bool (mayB s)) ∧ Below w.heap.size w w' := by
  have hm := may_any (some ⟨w.heap.size, 0, none⟩) 1 [s] (w.alloc (.cells #[.string s] 9)) (fun i u hu => by
    cases i with
    | zero => cases hu; exact ⟨w.heap.size, 0, rfl, by simp, by rw [Nat.add_zero]; exact (Bk.new w _ _).cell 0⟩
    | succ i => simp at hu) (by simp)
  have hm' := hide (show Calls Tryz.prog 39 #[.slice (some ⟨w.heap.size, 0, none⟩) 1 1] (w.alloc (.cells #[.string s] 9)) fun e w' => e = .returned (.bool (mayB s)) ∧ Below (w.alloc (.cells #[.string s] 9)).heap.size (w.alloc (.cells #[.string s] 9)) w' from by
    have := hm
    rw [show ([s].all mayB) = mayB s by simp] at this
    exact this)
  clear hm
  go_enter Tryz.func17, Tryz.ntmps17
  go_wp2_with (go_at_call 39; refine Calls.mono hm'.out ?_; rintro e w1 ⟨rfl, hb1⟩)
  go_ret
  exact ⟨rfl, btrans (ba1 _ _) hb1⟩
def usersB (st : Stp) : Bool := if st.kind = 1 ∨ st.kind = 3 then mayB st.nm else if st.kind = 6 then mayB st.to_ else true
set_option maxRecDepth 100000 in
theorem users_any (k : Nat) (nm to_ tx : ByteArray) (n : Int) (l : List Bool) (A : Option Addr) (m c : Nat) (w : World) : Calls Tryz.prog 29 #[.agg #[.int .u8 (k : Nat), .string nm, .string to_, .string tx, .int .i64 n, .slice A m c]] w fun e w' => e = .returned (.bool (usersB ⟨k, nm, to_, tx, n, l⟩)) ∧ Below w.heap.size w w' := by
  by_cases k1 : k = 1
  · subst k1
    rw [show usersB ⟨1, nm, to_, tx, n, l⟩ = mayB nm from rfl]
    go_enter Tryz.func29, Tryz.ntmps29
    go_wp2_with (go_at_call 17; refine Calls.mono (May_any _ _) ?_; rintro e w1 ⟨rfl, hb1⟩)
    go_ret
    exact ⟨rfl, btrans (ba1 _ _) hb1⟩
  · by_cases k3 : k = 3
    · subst k3
      rw [show usersB ⟨3, nm, to_, tx, n, l⟩ = mayB nm from rfl]
      go_enter Tryz.func29, Tryz.ntmps29
      go_wp2_with (go_at_call 17; refine Calls.mono (May_any _ _) ?_; rintro e w1 ⟨rfl, hb1⟩)
      go_ret
      exact ⟨rfl, btrans (ba1 _ _) hb1⟩
    · by_cases k6 : k = 6
      · subst k6
        rw [show usersB ⟨6, nm, to_, tx, n, l⟩ = mayB to_ from rfl]
        go_enter Tryz.func29, Tryz.ntmps29
        go_wp2_with (go_at_call 17; refine Calls.mono (May_any _ _) ?_; rintro e w1 ⟨rfl, hb1⟩)
        go_ret
        exact ⟨rfl, btrans (ba1 _ _) hb1⟩
      · have hu : usersB ⟨k, nm, to_, tx, n, l⟩ = true := by unfold usersB; rw [if_neg (show ¬ (k = 1 ∨ k = 3) by omega), if_neg (show ¬ k = 6 from k6)]
        rw [hu]
        have t1 : ((k : Int) == 1) = false := by rw [beq_eq_false_iff_ne]; omega
        have t3 : ((k : Int) == 3) = false := by rw [beq_eq_false_iff_ne]; omega
        have t6 : ((k : Int) == 6) = false := by rw [beq_eq_false_iff_ne]; omega
        clear hu k1 k3 k6
        go_enter Tryz.func29, Tryz.ntmps29
        go_wp2_with fail
        go_ret
        exact ⟨rfl, ba1 _ _⟩
end Go.Proofs.YtmbonieeapbpoaaGreatDoor
/- Walks: slices.Delete of one extent; slices.DeleteFunc where nothing is to go. -/
namespace Go.Proofs.YtmbonieeapbpoaaGreatDoor
open Go.RowKit Go.Sort

theorem Bk.putk {g : Nat} {t : TypeId} : ∀ (cs : List Value) {w : World} {xs : List Value} (o : Nat), Bk w g t xs.toArray → o + cs.length ≤ xs.length → Bk (w.setCells g o cs) g t (xs.take o ++ cs ++ xs.drop (o + cs.length)).toArray := by
  intro cs
  induction cs with
  | nil =>
    intro w xs o h _
    rw [List.append_nil, List.length_nil, Nat.add_zero, List.take_append_drop]; exact h
  | cons v r ih =>
    intro w xs o h hl
    rw [List.length_cons] at hl
    have h1 : Bk (w.setCell ⟨g, o, none⟩ v) g t (xs.set o v).toArray := by
      have := h.set_ o v
      rwa [List.setIfInBounds_toArray] at this
    have h2 := ih (o + 1) h1 (by rw [List.length_set]; omega)
    have e : (xs.set o v).take (o + 1) ++ r ++ (xs.set o v).drop (o + 1 + r.length) = xs.take o ++ v :: r ++ xs.drop (o + (v :: r).length) := by
      rw [List.take_add_one, List.getElem?_set_self (by omega), List.take_set_of_le (Nat.le_refl _), List.drop_set_of_lt (by omega), List.length_cons]
      simp [Nat.add_comm, Nat.add_left_comm]
    rw [e] at h2
    exact h2
theorem fr_putk (g : Nat) : ∀ (cs : List Value) (w : World) (o : Nat), Fr (fun k => k = g) w (w.setCells g o cs)
  | [], w, o => Fr.refl _ _
  | v :: r, w, o => by
    have h1 := (Fr.refl (fun k => k = g) w).setCell (p := ⟨g, o, none⟩) (.inl rfl) v
    exact Fr.trans h1 (fr_putk g r _ (o + 1)) fun _ h => .inl h
theorem flatE_take (l : List Ext) (i : Nat) : (flatE l).take (i * 2) = flatE (l.take i) := by
  induction l generalizing i with
  | nil => simp [flatE]
  | cons x l ih =>
    cases i with
    | zero => simp [flatE]
    | succ i =>
      show ([Value.string x.nm, Value.string x.dt] ++ flatE l).take ((i + 1) * 2) = _
      rw [show (i + 1) * 2 = i * 2 + 1 + 1 by omega]
      simp only [List.cons_append, List.nil_append, List.take_succ_cons]
      rw [ih]
      rfl
/-- A row of extents of which one is gone, as slices.Delete leaves it. -/
theorem own_del {w : World} {base g n c i : Nat} {l : List Ext} {e0 : ByteArray} (h : w.ownsRow base 49 2 (.slice (some ⟨g, 0, none⟩) n c) n (flatE l)) (hn : l.length = n) (hi : i < n) :
    ((w.setCells g (i * 2) (flatE (l.drop (i + 1)))).setCells g ((n - 1) * 2) [.string e0, .string e0]).ownsRow base 49 2 (.slice (some ⟨g, 0, none⟩) (n - 1) c) (n - 1) (flatE (delE l i)) := by
  have hl1 : (flatE (l.drop (i + 1))).length = (n - 1 - i) * 2 := by rw [flatE_length, List.length_drop, hn]; omega
  have hd : flatE (delE l i) = flatE (l.take i) ++ flatE (l.drop (i + 1)) := by unfold delE; rw [flatE_app]
  refine ⟨by rw [flatE_length]; unfold delE; rw [List.length_append, List.length_take, List.length_drop, hn]; omega, .inr ?_⟩
  rcases h.2 with ⟨hv, _⟩ | ⟨g', cap, cur, hv, hb, hg, hnc, hcm, hcs, ht⟩
  · simp at hv
  · simp only [Value.slice.injEq, Option.some.injEq, Addr.mk.injEq, true_and, and_true] at hv
    obtain ⟨rfl, rfl⟩ := hv
    obtain ⟨xs⟩ := cur
    have hxl : xs.length = c * 2 := hcs
    have ht : xs.take (n * 2) = flatE l := ht
    have k1 := Bk.putk (flatE (l.drop (i + 1))) (i * 2) (show Bk w g _ xs.toArray from hg) (by rw [hl1, hxl]; omega)
    obtain ⟨ys, hys⟩ : ∃ ys, ys = xs.take (i * 2) ++ flatE (l.drop (i + 1)) ++ xs.drop (i * 2 + (flatE (l.drop (i + 1))).length) := ⟨_, rfl⟩
    have hyl : ys.length = c * 2 := by rw [hys, hl1]; simp [hl1, hxl]; omega
    rw [← hys] at k1
    have k2 := Bk.putk [.string e0, .string e0] ((n - 1) * 2) k1 (by rw [hyl]; show (n - 1) * 2 + 2 ≤ _; omega)
    refine ⟨g, c, _, rfl, hb, k2, by omega, hcm, by show List.length _ = _; simp [hyl]; omega, ?_⟩
    show (ys.take ((n - 1) * 2) ++ [Value.string e0, Value.string e0] ++ ys.drop _).take ((n - 1) * 2) = _
    have hyt : (ys.take ((n - 1) * 2)).length = (n - 1) * 2 := by rw [List.length_take, hyl]; omega
    rw [List.append_assoc, List.take_append_of_le_length (by omega), List.take_of_length_le (by omega), hys]
    have hx2 : (xs.take (i * 2)).length = i * 2 := by rw [List.length_take, hxl]; omega
    rw [List.take_append_of_le_length (by rw [List.length_append, hx2, hl1]; omega), List.take_of_length_le (by rw [List.length_append, hx2, hl1]; omega), hd]
    have e : xs.take (i * 2) = flatE (l.take i) := by
      rw [← flatE_take, ← ht, List.take_take, Nat.min_eq_left (by omega)]
    rw [e]
end Go.Proofs.YtmbonieeapbpoaaGreatDoor
/- Walks of the document's world: Named, May, budget, Make of a disk, Find, used. -/
namespace Go.Proofs.YtmbonieeapbpoaaGreatDoor
open Go.RowKit

theorem Rd.take2 {w : World} {B : Nat} {A : Option Addr} {l : List Ext} (h : Rd w B A (flatE l)) (k : Nat) : Rd w B A (flatE (l.take k)) := fun i u hu => by
  rw [← flatE_take, List.getElem?_take] at hu
  split at hu
  · exact h i u hu
  · cases hu
set_option maxRecDepth 100000 in
set_option maxHeartbeats 4000000 in
theorem rnamed_any (s : ByteArray) (w : World) : Calls Tryz.prog 26 #[.string s] w fun e w' => e = .returned (.bool (namedB s)) ∧ w' = w := by
  by_cases h0 : s.size = 0
  · have hE : s.toList.isEmpty = true := by rw [isEmpty_str, decide_eq_true h0]
    have hm : namedB s = false := by unfold namedB; simp [h0]
    rw [hm]
    clear hm h0
    go_enter Tryz.func26, Tryz.ntmps26
    go_wp2_with fail
    go_ret
    exact ⟨rfl, rfl⟩
  · have hE : s.toList.isEmpty = false := by rw [isEmpty_str, decide_eq_false h0]
    by_cases h16 : (s.size : Int) ≤ 16
    · have hm : namedB s = true := by unfold namedB; rw [decide_eq_true (show 0 < s.size by omega), decide_eq_true (show s.size ≤ 16 by omega)]; rfl
      rw [hm]
      clear hm h0
      go_enter Tryz.func26, Tryz.ntmps26
      go_wp2_with fail
      go_ret
      exact ⟨rfl, rfl⟩
    · have hm : namedB s = false := by unfold namedB; rw [decide_eq_false (show ¬ s.size ≤ 16 by omega)]; simp
      rw [hm]
      clear hm h0
      go_enter Tryz.func26, Tryz.ntmps26
      go_wp2_with fail
      go_ret
      exact ⟨rfl, rfl⟩
set_option maxRecDepth 100000 in
set_option maxHeartbeats 4000000 in
theorem rmay_any (s : ByteArray) (w : World) : Calls Tryz.prog 14 #[.string s] w fun e w' => e = .returned (.bool (mayB s)) ∧ w' = w := by
  have hn := fun W => rnamed_any s W
  by_cases hb : namedB s = true
  · have hs : 0 < s.size ∧ s.size ≤ 16 := by
      unfold namedB at hb
      rw [Bool.and_eq_true, decide_eq_true_eq, decide_eq_true_eq] at hb
      exact hb
    obtain ⟨m, hm1⟩ : ∃ m, s.size = m + 1 := ⟨s.size - 1, by omega⟩
    have hml : m < s.size := by omega
    have h0l : 0 < s.size := by omega
    have q0 : (s[0]'h0l).toNat = byt s 0 := byt_of s h0l
    have q1 : (s[m]'hml).toNat = byt s m := byt_of s hml
    have hsz : (s.size : Int) - 1 = (m : Int) := by omega
    have hmb : mayB s = (decide (byt s 0 ≠ 61) && decide (byt s 0 ≠ 126) && decide (byt s m ≠ 0)) := by
      unfold mayB
      rw [hb, show s.size - 1 = m by omega]
      rfl
    obtain ⟨b0, hb0⟩ : ∃ b0, b0 = byt s 0 := ⟨_, rfl⟩
    obtain ⟨b1, hb1⟩ : ∃ b1, b1 = byt s m := ⟨_, rfl⟩
    rw [← hb0] at q0
    rw [← hb1] at q1
    have HM2 := hide (show mayB s = (decide (b0 ≠ 61) && decide (b0 ≠ 126) && decide (b1 ≠ 0)) by rw [hmb, hb0, hb1])
    have hmi : (m : Int) < (s.size : Int) := by omega
    have hwm : IntKind.i64.wrap (m : Int) = (m : Int) := IntWalk.i64_in _ ⟨by omega, by omega⟩
    rw [hb] at hn
    have HN := hide hn
    have HM1 := hide hm1
    clear hmb hb0 hb1 hm1 hs hn hb
    by_cases e1 : b0 = 61
    · have t1 : (b0 : Int) = 61 := by omega
      have HR := hide (show mayB s = false by rw [HM2.out, e1]; rfl)
      clear e1 HM2
      go_enter Tryz.func14, Tryz.ntmps14
      go_wp2_with (go_at_call 26; refine Calls.mono (HN.out _) ?_; rintro e w1 ⟨rfl, rfl⟩)
      go_ret
      exact ⟨by rw [HR.out]; rfl, rfl⟩
    · have t1 : ¬ (b0 : Int) = 61 := by omega
      by_cases e2 : b0 = 126
      · have t2 : (b0 : Int) = 126 := by omega
        have HR := hide (show mayB s = false by rw [HM2.out, e2]; rfl)
        clear e1 e2 HM2
        go_enter Tryz.func14, Tryz.ntmps14
        go_wp2_with (go_at_call 26; refine Calls.mono (HN.out _) ?_; rintro e w1 ⟨rfl, rfl⟩)
        go_ret
        exact ⟨by rw [HR.out]; rfl, rfl⟩
      · have t2 : ¬ (b0 : Int) = 126 := by omega
        by_cases e3 : b1 = 0
        · have t3 : (b1 : Int) = 0 := by omega
          have HR := hide (show mayB s = false by rw [HM2.out, e3]; simp)
          clear e1 e2 e3 HM2
          go_enter Tryz.func14, Tryz.ntmps14
          go_wp2_with (go_at_call 26; refine Calls.mono (HN.out _) ?_; rintro e w1 ⟨rfl, rfl⟩)
          go_ret
          exact ⟨by rw [HR.out]; rfl, rfl⟩
        · have t3 : ¬ (b1 : Int) = 0 := by omega
          have HR := hide (show mayB s = true by rw [HM2.out, decide_eq_true e1, decide_eq_true e2, decide_eq_true e3]; rfl)
          clear e1 e2 e3 HM2
          go_enter Tryz.func14, Tryz.ntmps14
          go_wp2_with (go_at_call 26; refine Calls.mono (HN.out _) ?_; rintro e w1 ⟨rfl, rfl⟩)
          go_ret
          exact ⟨by rw [HR.out]; simp; omega, rfl⟩
  · have hb2 : namedB s = false := by simpa using hb
    have hmb : mayB s = false := by unfold mayB; rw [hb2]; rfl
    rw [hb2] at hn
    rw [hmb]
    have HN := hide hn
    clear hmb hn hb hb2
    go_enter Tryz.func14, Tryz.ntmps14
    go_wp2_with (go_at_call 26; refine Calls.mono (HN.out _) ?_; rintro e w1 ⟨rfl, rfl⟩)
    go_ret
    exact ⟨rfl, rfl⟩
theorem rbudget_any (n : Int) (w : World) : Calls Tryz.prog 21 #[.int .i64 n] w fun e w' => e = .returned (.int .i64 (budgetE n)) ∧ w' = w := by
  by_cases h1 : n < 24
  · have hb : budgetE n = 9 := by unfold budgetE; rw [if_pos h1]
    rw [hb]
    clear hb
    go_enter Tryz.func21, Tryz.ntmps21
    go_wp2_with fail
    go_ret
    exact ⟨rfl, rfl⟩
  · by_cases h2 : 256 < n
    · have hb : budgetE n = 1 := by unfold budgetE; rw [if_neg h1, if_pos h2]
      rw [hb]
      clear hb
      go_enter Tryz.func21, Tryz.ntmps21
      go_wp2_with fail
      go_ret
      exact ⟨rfl, rfl⟩
    · have hb : budgetE n = 0 := by unfold budgetE; rw [if_neg h1, if_neg h2]
      rw [hb]
      clear hb
      go_enter Tryz.func21, Tryz.ntmps21
      go_wp2_with fail
      go_ret
      exact ⟨rfl, rfl⟩
set_option maxRecDepth 100000 in
set_option maxHeartbeats 4000000 in
theorem rmake_any (n : Int) (w : World) : Calls Tryz.prog 20 #[.int .i64 n] w fun e w' => (∃ v, e = .returned (.tuple #[v, .int .i64 (makeD n).2]) ∧ DvQ w' v (makeD n).1) ∧ Below w.heap.size w w' := by
  have hq : ∀ (W : World) (d : Dsk), d.exts = [] → d.waits = [] → DvQ W (.agg #[.int .i64 d.size, .slice none 0 0, .slice none 0 0, .int .i64 d.fuse, .bool d.down]) d := fun W d h1 h2 => ⟨none, 0, none, 0, by rw [h1, h2]; rfl, by rw [h1]; exact World.ownsRow_nil _ _ _ _, by rw [h2]; exact World.ownsRow_nil _ _ _ _⟩
  have HQ := hide hq
  clear hq
  by_cases h1 : n < 0
  · have HM := hide (show makeD n = (zeroD, 1) by unfold makeD; rw [if_pos (.inl h1)])
    go_enter Tryz.func20, Tryz.ntmps20
    go_wp2_with fail
    refine bodyPost_ret (v := .tuple #[_, .int .i64 _]) (res_d2 Tryz.results20 (Bk.new _ _ _) rfl rfl) rfl ?_
    exact ⟨⟨_, by rw [HM.out], by rw [HM.out]; exact HQ.out _ zeroD rfl rfl⟩, ba1 _ _⟩
  · by_cases h2 : 16384 < n
    · have HM := hide (show makeD n = (zeroD, 1) by unfold makeD; rw [if_pos (.inr h2)])
      go_enter Tryz.func20, Tryz.ntmps20
      go_wp2_with fail
      refine bodyPost_ret (v := .tuple #[_, .int .i64 _]) (res_d2 Tryz.results20 (Bk.new _ _ _) rfl rfl) rfl ?_
      exact ⟨⟨_, by rw [HM.out], by rw [HM.out]; exact HQ.out _ zeroD rfl rfl⟩, ba1 _ _⟩
    · have HM := hide (show makeD n = (⟨n, [], [], -1, false⟩, 0) by unfold makeD; rw [if_neg (by omega)])
      go_enter Tryz.func20, Tryz.ntmps20
      go_wp2_with fail
      refine bodyPost_ret (v := .tuple #[_, .int .i64 _]) (res_d2 Tryz.results20 (Bk.new _ _ _) rfl rfl) rfl ?_
      exact ⟨⟨_, by rw [HM.out], by rw [HM.out]; exact HQ.out _ ⟨n, [], [], -1, false⟩ rfl rfl⟩, ba1 _ _⟩
/-- Where a list has an extent of a name: -1, nowhere. -/
def fndI (l : List Ext) (s : ByteArray) : Int := idxI (fun x : Ext => decide (x.nm = s)) l
set_option maxRecDepth 100000 in
set_option maxHeartbeats 4000000 in
theorem rfind_any (A : Option Addr) (c : Nat) (l : List Ext) (s : ByteArray) (w : World) (hr : Rd w w.heap.size A (flatE l)) (hl : l.length ≤ 1000000000) :
    Calls Tryz.prog 15 #[.slice A l.length c, .string s] w fun e w' => e = .returned (.int .i64 (fndI l s)) ∧ Below w.heap.size w w' := by
  have HR := hide hr
  clear hr
  go_enter Tryz.func15, Tryz.ntmps15
  go_wp2_with fail
  go_loopw [9] (fun iv wr => ∃ k : Nat, iv = .int .i64 k ∧ k ≤ l.length ∧ Hid (Below w.heap.size w wr) ∧ Hid (∀ j y, j < k → l[j]? = some y → (decide (y.nm = s)) = false)) (fun i _ => l.length - (intOf i).toNat)
  case atStart => exact ⟨0, rfl, by omega, hide (Below.refl _ _), hide (fun j y hj => by omega)⟩
  case round =>
    obtain ⟨k, rfl, hk, hB, hinv⟩ := hrel
    by_cases hlt : k < l.length
    · obtain ⟨x, hx⟩ : ∃ x, l[k]? = some x := ⟨l[k], by simp [hlt]⟩
      obtain ⟨b, o, rfl, hb, x0, x1⟩ := ext_cells (HR.out.below hB.out) hx
      have hbr : b < wr.heap.size := Nat.lt_of_lt_of_le hb hB.out.size
      have HX := hide hx
      clear hx
      by_cases he : x.nm = s
      · have f4 : (x.nm.toList == s.toList) = true := by rw [he]; simp
        have HE := hide he
        clear he
        go_wp2_with fail
        go_ret
        exact ⟨by unfold fndI; rw [idxI_at hinv.out HX.out (decide_eq_true HE.out)]; rfl, btrans hB.out (ba1 _ _)⟩
      · have f4 : (x.nm.toList == s.toList) = false := by
          have : ¬ x.nm.toList = s.toList := fun h => he (toList_inj' h)
          simp [this]
        have HE := hide he
        clear he
        go_wp2_with fail
        exact ⟨⟨k + 1, by simp, by omega, hide (btrans hB.out (ba1 _ _)), hide (findIdx_step hinv.out HX.out (decide_eq_false HE.out))⟩, by simp [intOf]; omega⟩
    · obtain rfl : k = l.length := by omega
      go_wp2_with fail
      go_ret
      exact ⟨by unfold fndI; rw [idxI_none hinv.out]; rfl, hB.out⟩
theorem usedE_take {l : List Ext} {k : Nat} {x : Ext} (h : l[k]? = some x) : usedE (l.take (k + 1)) = usedE (l.take k) + secsE x := by
  rw [List.take_add_one, h, usedE_app, Option.toList_some, usedE_cons]
  rfl
theorem usedE_le {l : List Ext} : ∀ {k : Nat}, (∀ x ∈ l, x.dt.size ≤ 1000000000) → usedE (l.take k) ≤ k * 20000000 := by
  intro k
  induction k with
  | zero => intro _; simp [usedE]
  | succ k ih =>
    intro h
    by_cases hk : k < l.length
    · have := h _ (List.getElem_mem hk)
      rw [usedE_take (List.getElem?_eq_getElem hk)]
      have := ih h
      have hs : secsE l[k] ≤ 20000000 := by unfold secsE; omega
      omega
    · have := ih h
      rw [List.take_of_length_le (by omega)] at this ⊢
      exact Nat.le_trans this (Nat.mul_le_mul_right _ (Nat.le_succ k))
set_option maxRecDepth 100000 in
set_option maxHeartbeats 4000000 in
theorem rused_any (A : Option Addr) (c : Nat) (l : List Ext) (w : World) (hr : Rd w w.heap.size A (flatE l)) (hl : l.length ≤ 1000000000) (hd : ∀ x ∈ l, x.dt.size ≤ 1000000000) :
    Calls Tryz.prog 43 #[.slice A l.length c] w fun e w' => e = .returned (.int .i64 (usedE l : Nat)) ∧ Below w.heap.size w w' := by
  have hu := fun k => usedE_le (k := k) hd
  have HU := hide hu
  have HR := hide hr
  have HD := hide hd
  clear hr hu hd
  go_enter Tryz.func43, Tryz.ntmps43
  go_wp2_with fail
  go_loopw [3, 8] (fun nv iv wr => ∃ k n : Nat, nv = .int .i64 n ∧ iv = .int .i64 k ∧ k ≤ l.length ∧ n ≤ k * 20000000 ∧ Hid (Below w.heap.size w wr) ∧ Hid (n = usedE (l.take k))) (fun _ i _ => l.length - (intOf i).toNat)
  case atStart => exact ⟨0, 0, rfl, rfl, by omega, by omega, hide (Below.refl _ _), hide (by simp [usedE])⟩
  case round =>
    obtain ⟨k, n, rfl, rfl, hk, hn, hB, hinv⟩ := hrel
    by_cases hlt : k < l.length
    · obtain ⟨x, hx⟩ : ∃ x, l[k]? = some x := ⟨l[k], by simp [hlt]⟩
      obtain ⟨b, o, rfl, hb, x0, x1⟩ := ext_cells (HR.out.below hB.out) hx
      have hbr : b < wr.heap.size := Nat.lt_of_lt_of_le hb hB.out.size
      have hs := HD.out x (List.mem_of_getElem? hx)
      have HX := hide hx
      obtain ⟨q, hq⟩ : ∃ q, q = x.dt.size / 64 := ⟨_, rfl⟩
      have hdv : (x.dt.size : Int).tdiv 64 = (q : Int) := by rw [hq, Int.tdiv_eq_ediv_of_nonneg (by omega)]; omega
      have hql : q ≤ 20000000 := by omega
      have HQ := hide hq
      clear hx hq
      go_wp2_with fail
      exact ⟨⟨k + 1, n + q, by simp, by simp, by omega, by omega, hide (btrans hB.out (ba1 _ _)), hide (by rw [usedE_take HX.out, ← hinv.out, HQ.out]; rfl)⟩, by simp [intOf]; omega⟩
    · obtain rfl : k = l.length := by omega
      go_wp2_with fail
      go_ret
      exact ⟨by rw [hinv.out, List.take_length]; rfl, hB.out⟩
end Go.Proofs.YtmbonieeapbpoaaGreatDoor
/- Walk: wringerref04.Check: the document's word that a disk is right. Printed by gen_wlb.py. -/
namespace Go.Proofs.YtmbonieeapbpoaaGreatDoor
open Go.RowKit Go.Sort

/-- What the document asks of an extent at a place. -/
def eachP (d : Dsk) (i : Nat) (x : Ext) : Prop := namedB x.nm = true ∧ (∀ y, 0 < i → d.exts[i - 1]? = some y → sless y.nm x.nm = true) ∧ 0 < x.dt.size ∧ x.dt.size % 64 = 0 ∧ (usedE (d.exts.take (i + 1)) : Int) ≤ d.size
theorem each_no {d : Dsk} {k : Nat} {x : Ext} (hx : d.exts[k]? = some x) (h : ¬ eachP d k x) : checkD d = 2 := by
  refine check_no ?_
  cases hc : checkB d with
  | false => rfl
  | true => exact absurd ((rightR_iff.2 hc).each k x hx) h
theorem head_no {d : Dsk} (h : ¬ (0 ≤ d.size ∧ d.size ≤ 16384 ∧ d.exts.length ≤ 16384 ∧ d.waits.length ≤ 16384 ∧ -1 ≤ d.fuse)) : checkD d = 2 := by
  refine check_no ?_
  cases hc : checkB d with
  | false => rfl
  | true =>
    have r := rightR_iff.2 hc
    exact absurd ⟨r.size.1, r.size.2, r.exts, r.waits, r.fuse⟩ h
theorem each_rise {d : Dsk} (h : ∀ j x, j < d.exts.length → d.exts[j]? = some x → eachP d j x) : Rise d.exts := rise_of_next fun i x y hx hy =>
  (h (i + 1) y (List.getElem?_eq_some_iff.1 hy).1 hy).2.1 x (by omega) (by simpa using hx)
theorem each_step {d : Dsk} {k : Nat} {x : Ext} (h : ∀ j y, j < k → d.exts[j]? = some y → eachP d j y) (hx : d.exts[k]? = some x) (hp : eachP d k x) : ∀ j y, j < k + 1 → d.exts[j]? = some y → eachP d j y := fun j y hj hy => by
  rcases Nat.lt_or_ge j k with g | g
  · exact h j y g hy
  · obtain rfl : j = k := by omega
    rw [hx] at hy
    obtain rfl := Option.some.inj hy
    exact hp
theorem wait_no {d : Dsk} {y : Wt} (hy : y ∈ d.waits) (h : ¬ waitP d.exts y) : checkD d = 2 := by
  refine check_no ?_
  cases hc : checkB d with
  | false => rfl
  | true => exact absurd ((rightR_iff.2 hc).wait y hy) h
theorem wait_step {d : Dsk} {k : Nat} {x : Wt} (h : ∀ j y, j < k → d.waits[j]? = some y → waitP d.exts y) (hx : d.waits[k]? = some x) (hp : waitP d.exts x) : ∀ j y, j < k + 1 → d.waits[j]? = some y → waitP d.exts y := fun j y hj hy => by
  rcases Nat.lt_or_ge j k with g | g
  · exact h j y g hy
  · obtain rfl : j = k := by omega
    rw [hx] at hy
    obtain rfl := Option.some.inj hy
    exact hp
theorem below_dn {B n : Nat} {a w : World} (h : Below B a w) : Below B a (w.drewN n) := ⟨h.os, h.tape, h.output, h.size, h.block⟩
theorem rise_inj {l : List Ext} (h : Rise l) {x y : Ext} (hx : x ∈ l) (hy : y ∈ l) (e : x.nm = y.nm) : x = y := by
  obtain ⟨i, hi⟩ := List.mem_iff_getElem?.1 hx
  obtain ⟨j, hj⟩ := List.mem_iff_getElem?.1 hy
  rcases Nat.lt_trichotomy i j with g | g | g
  · have := h.get hi hj g
    rw [e, sless_irrefl] at this; cases this
  · subst g
    rw [hi] at hj
    exact Option.some.inj hj
  · have := h.get hj hi g
    rw [e, sless_irrefl] at this; cases this
theorem fnd_at {l : List Ext} {s : ByteArray} : (fndI l s = -1 ∧ ∀ x ∈ l, x.nm ≠ s) ∨ ∃ (k : Nat) (x : Ext), fndI l s = k ∧ l[k]? = some x ∧ x.nm = s := by
  unfold fndI idxI
  cases h : l.findIdx? (fun x : Ext => decide (x.nm = s)) with
  | none =>
    left
    refine ⟨rfl, fun x hx => ?_⟩
    have := List.findIdx?_eq_none_iff.1 h x hx
    exact of_decide_eq_false this
  | some k =>
    right
    obtain ⟨hk, h1, _⟩ := List.findIdx?_eq_some_iff_getElem.1 h
    exact ⟨k, l[k], rfl, List.getElem?_eq_getElem hk, of_decide_eq_true h1⟩
set_option maxRecDepth 100000 in
set_option maxHeartbeats 16000000 in
theorem rcheck_any (AE AW : Option Addr) (cE cW : Nat) (d : Dsk) (w : World) (hE : Rd w w.heap.size AE (flatE d.exts)) (hW : Rd w w.heap.size AW (flatW d.waits)) (hcE : d.exts.length ≤ cE) (hz : SzD d) :
    Calls Tryz.prog 25 #[.agg #[.int .i64 d.size, .slice AE d.exts.length cE, .slice AW d.waits.length cW, .int .i64 d.fuse, .bool d.down]] w fun e w' => e = .returned (.int .i64 (checkD d)) ∧ Below w.heap.size w w' := by
  have h1 := hz.exts
  have h2 := hz.waits
  have HZ := hide hz
  have HE := hide hE
  have HW := hide hW
  clear hz hE hW
  obtain ⟨W0, hW0⟩ : ∃ W0, W0 = w.alloc (.cells #[.int .i64 d.size, .slice AE d.exts.length cE, .slice AW d.waits.length cW, .int .i64 d.fuse, .bool d.down] 25) := ⟨_, rfl⟩
  have hb0 : Below w.heap.size w W0 := by rw [hW0]; exact ba1 _ _
  have hk0 : Bk W0 w.heap.size 25 #[.int .i64 d.size, .slice AE d.exts.length cE, .slice AW d.waits.length cW, .int .i64 d.fuse, .bool d.down] := by rw [hW0]; exact Bk.new _ _ _
  obtain ⟨c0, c1, c2, c3, c4⟩ := five_cells hk0
  have hl0 := hk0.lt
  have HW0 := hide hW0
  have HB0 := hide hb0
  have HK0 := hide hk0
  clear hW0 hb0 hk0
  go_enter Tryz.func25, Tryz.ntmps25
  go_upto_region 1 with fail
  rw [← HW0.out]
  by_cases a0 : d.size < 0
  · have HR := hide (head_no (d := d) (by omega))
    go_wp2_with fail
    go_ret
    exact ⟨by rw [HR.out]; rfl, HB0.out⟩
  by_cases a1 : (16384 : Int) < d.size
  · have HR := hide (head_no (d := d) (by omega))
    go_wp2_with fail
    go_ret
    exact ⟨by rw [HR.out]; rfl, HB0.out⟩
  by_cases a2 : (16384 : Int) < (d.exts.length : Int)
  · have HR := hide (head_no (d := d) (by omega))
    go_wp2_with fail
    go_ret
    exact ⟨by rw [HR.out]; rfl, HB0.out⟩
  by_cases a3 : (16384 : Int) < (d.waits.length : Int)
  · have HR := hide (head_no (d := d) (by omega))
    go_wp2_with fail
    go_ret
    exact ⟨by rw [HR.out]; rfl, HB0.out⟩
  by_cases a4 : d.fuse < -1
  · have HR := hide (head_no (d := d) (by omega))
    go_wp2_with fail
    go_ret
    exact ⟨by rw [HR.out]; rfl, HB0.out⟩
  have HHd := hide (show 0 ≤ d.size ∧ d.size ≤ 16384 ∧ d.exts.length ≤ 16384 ∧ d.waits.length ≤ 16384 ∧ -1 ≤ d.fuse by omega)
  have a5 : d.size ≤ 16384 := by omega
  go_wp2_with fail
  clear a0 a1 a2 a3 a4 c0 c2 c3 c4
  go_loopw [36] (fun iv wr => ∃ k : Nat, iv = .int .i64 k ∧ k ≤ d.exts.length ∧ Hid (Below w.heap.size w wr) ∧ Hid (Bk wr w.heap.size 25 #[.int .i64 d.size, .slice AE d.exts.length cE, .slice AW d.waits.length cW, .int .i64 d.fuse, .bool d.down]) ∧ Hid (∀ j y, j < k → d.exts[j]? = some y → eachP d j y)) (fun i _ => d.exts.length - (intOf i).toNat)
  case atStart => exact ⟨0, rfl, by omega, HB0, HK0, hide (fun j y hj => by omega)⟩
  case round =>
    clear HK0 HB0 c1
    obtain ⟨k, rfl, hk, hB, hK, hinv⟩ := hrel
    obtain ⟨c0, c1, c2, c3, c4⟩ := five_cells hK.out
    have hl0 := hK.out.lt
    by_cases hlt : k < d.exts.length
    · obtain ⟨x, hx⟩ : ∃ x, d.exts[k]? = some x := ⟨d.exts[k], List.getElem?_eq_getElem hlt⟩
      obtain ⟨b, o, rfl, hb, x0, x1⟩ := ext_cells (HE.out.below hB.out) hx
      have hbr : b < wr.heap.size := Nat.lt_of_lt_of_le hb hB.out.size
      have HX := hide hx
      obtain ⟨W3, hW3⟩ : ∃ W3, W3 = wr.alloc (.cells #[.string x.nm, .string x.dt] 49) := ⟨_, rfl⟩
      go_upto_region 6 with fail
      rw [← hW3]
      have hb3 : Below wr.heap.size wr W3 := by rw [hW3]; exact ba1 _ _
      have k3 : Bk W3 wr.heap.size 49 #[.string x.nm, .string x.dt] := by rw [hW3]; exact Bk.new _ _ _
      have kd3 := hK.out.keep hb3
      have HB3 := hide (hB.out.trans (hb3.mono hB.out.size))
      obtain ⟨y0, y1⟩ := two_cells k3
      have hl3 := k3.lt
      have hl4 := kd3.lt
      have HK3 := hide kd3
      clear c0 c1 c2 c3 c4 x0 x1 hx hW3 hb3 hK
      obtain ⟨c0, c1, c2, c3, c4⟩ := five_cells HK3.out
      have hna := fun W => rnamed_any x.nm W
      obtain ⟨u, hu⟩ : ∃ u, u = namedB x.nm := ⟨_, rfl⟩
      rw [← hu] at hna
      have HN := hide hna
      have HU := hide hu
      have hdx := HZ.out.ext x (List.mem_of_getElem? HX.out)
      have he := isEmpty_str x.dt
      have hkz : ((k : Int) + 1) = ((k + 1 : Nat) : Int) := by omega
      clear hna hu hkz
      cases u with
      | false =>
        have HR := hide (each_no HX.out fun h => by have := h.1; rw [← HU.out] at this; cases this)
        clear he
        go_quiet ((go_at_call 26; exact Calls.quiet_of_same (HN.out _)))
        go_wp2_with fail
        go_ret
        exact ⟨by rw [HR.out]; rfl, below_dn HB3.out⟩
      | true =>
        by_cases hk0 : k = 0
        · have g0 : decide (0 < k) = false := decide_eq_false (by omega)
          have HKz := hide hk0
          clear hk0
          by_cases d0 : x.dt.size = 0
          · have d1 : x.dt.toList.isEmpty = true := by rw [he]; simp [d0]
            have D0 := hide d0
            clear he d0
            have HR := hide (each_no HX.out fun h => by have h1 := h.2.2.1; have h2 := D0.out; omega)
            go_quiet ((go_at_call 26; exact Calls.quiet_of_same (HN.out _)))
            go_wp2_with fail
            go_ret
            exact ⟨by rw [HR.out]; rfl, below_dn HB3.out⟩
          · have d1 : x.dt.toList.isEmpty = false := by rw [he]; simp [d0]
            have D0 := hide d0
            clear he d0
            by_cases d2 : x.dt.size % 64 = 0
            · have d3 : (((x.dt.size : Int).tmod 64) != 0) = false := by rw [Int.tmod_eq_emod_of_nonneg (by omega)]; simp; omega
              have d3' : (((x.dt.size : Int) % 64) != 0) = false := by simp; omega
              have D2 := hide d2
              clear d2
              go_quiet ((go_at_call 26; exact Calls.quiet_of_same (HN.out _)))
              go_wp2_with fail
              have hus := fun (dd : Nat) (os : Array Obj) => rused_any (some ⟨b, o, none⟩) cE (d.exts.take (k + 1)) (grow (redrawn W3 dd) os) (((HE.out.take2 (k + 1)).below (HB3.out.trans ((below_regrown W3 dd os).mono HB3.out.size))).more (by have := (below_regrown W3 dd os).size; have := HB3.out.size; omega)) (by rw [List.length_take]; omega) (fun z hz => HZ.out.ext z (List.mem_of_mem_take hz))
              obtain ⟨k1, hk1⟩ : ∃ k1, k1 = k + 1 := ⟨_, rfl⟩
              have hlk : (d.exts.take (k + 1)).length = k1 := by rw [List.length_take]; omega
              obtain ⟨q, hq⟩ : ∃ q, q = usedE (d.exts.take (k + 1)) := ⟨_, rfl⟩
              rw [← hq, hlk] at hus
              have cf := fun (n dd : Nat) os => Calls.regrown_of (w := W3.drewN n) (d := dd) (os := os) (hus dd os)
              have CF := hide cf
              have hmx : Tryz.prog.follows .mixedOrders = true := by kernel_rfl
              have m0 := fun (n : Nat) => cell_regrown (w := W3.drewN n) c0
              have m1 := fun (n : Nat) => cell_regrown (w := W3.drewN n) c1
              have wk1 : IntKind.i64.wrap ((k : Int) + 1) = (k1 : Int) := by rw [IntWalk.i64_in _ ⟨by omega, by omega⟩]; omega
              have wk2 : k1 ≤ cE := by omega
              have wk3 : (k1 : Int) ≤ (cE : Int) := by omega
              have HQ := hide hq
              have HK1 := hide hk1
              clear hus cf hq hk1 hlk c0 c1 c2 c3 c4
              refine wp_region_quiet_below hmx (by kernel_rfl) ?_
              repeat (quiet_step (with_reducible exact CF.out _ _ _))
              refine wpQuiet_nil ?_
              intro w5 hw'
              obtain ⟨⟨dq, osq⟩, hw''⟩ := hw'
              have hw5 : w5 = grow (redrawn W3 dq) osq := hw''
              clear hw''
              have hb5 := below_regrown W3 dq osq
              rw [← hw5] at hb5
              have HB5 := hide (HB3.out.trans (hb5.mono HB3.out.size))
              have HK5 := hide (HK3.out.keep hb5)
              obtain ⟨c0, c1, c2, c3, c4⟩ := five_cells HK5.out
              clear CF m0 m1 hw5 hb5 y0 y1 wk1 wk2 wk3 HK3
              by_cases hqs : d.size < (q : Int)
              · have HR := hide (each_no HX.out fun h => by have h5 := h.2.2.2.2; have h6 := HQ.out; rw [← h6] at h5; omega)
                have hqd : decide (d.size < (q : Int)) = true := decide_eq_true hqs
                go_wp2_with fail
                go_ret
                exact ⟨by rw [HR.out]; rfl, HB5.out⟩
              · have HP := hide (show eachP d k x from ⟨HU.out.symm, fun y h0 _ => by have := HKz.out; omega, by have := D0.out; omega, D2.out, by rw [← HQ.out]; omega⟩)
                have hqd : decide (d.size < (q : Int)) = false := decide_eq_false hqs
                go_wp2_with fail
                exact ⟨⟨k + 1, by simp, by omega, HB5, HK5, hide (each_step hinv.out HX.out HP.out)⟩, by simp [intOf]; omega⟩
            · have d3 : (((x.dt.size : Int).tmod 64) != 0) = true := by rw [Int.tmod_eq_emod_of_nonneg (by omega)]; simp; omega
              have d3' : (((x.dt.size : Int) % 64) != 0) = true := by simp; omega
              have D2 := hide d2
              clear d2
              have HR := hide (each_no HX.out fun h => by exact D2.out h.2.2.2.1)
              go_quiet ((go_at_call 26; exact Calls.quiet_of_same (HN.out _)))
              go_wp2_with fail
              go_ret
              exact ⟨by rw [HR.out]; rfl, below_dn HB3.out⟩
        · obtain ⟨m, rfl⟩ : ∃ m, k = m + 1 := ⟨k - 1, by omega⟩
          obtain ⟨y, hy⟩ : ∃ y, d.exts[m]? = some y := ⟨d.exts[m]'(by omega), List.getElem?_eq_getElem (by omega)⟩
          obtain ⟨b', o', e0', hb', z0, z1⟩ := ext_cells (HE.out.below HB3.out) hy
          cases e0'
          have HPm := hide (show d.exts[m + 1 - 1]? = some y from hy)
          have g0 : decide ((0 : Int) < ((m + 1 : Nat) : Int)) = true := decide_eq_true (by omega)
          have g1 : IntKind.i64.wrap (((m + 1 : Nat) : Int) - 1) = (m : Int) := by rw [IntWalk.i64_in _ ⟨by omega, by omega⟩]; omega
          have g2 : (m : Int) < (d.exts.length : Int) := by omega
          obtain ⟨t, ht⟩ : ∃ t, t = Op.bytesLess y.nm.toList x.nm.toList := ⟨_, rfl⟩
          clear hy
          have ht2 := ht.symm
          clear ht
          cases t with
          | false =>
            have HR := hide (each_no HX.out fun h => by have h1 := h.2.1 y (by omega) HPm.out; unfold sless at h1; rw [ht2] at h1; cases h1)
            clear he
            go_quiet ((go_at_call 26; exact Calls.quiet_of_same (HN.out _)))
            go_wp2_with fail
            go_ret
            exact ⟨by rw [HR.out]; rfl, below_dn HB3.out⟩
          | true =>
            have HLs := hide (show sless y.nm x.nm = true from ht2)
            by_cases d0 : x.dt.size = 0
            · have d1 : x.dt.toList.isEmpty = true := by rw [he]; simp [d0]
              have D0 := hide d0
              clear he d0
              have HR := hide (each_no HX.out fun h => by have h1 := h.2.2.1; have h2 := D0.out; omega)
              go_quiet ((go_at_call 26; exact Calls.quiet_of_same (HN.out _)))
              go_wp2_with fail
              go_ret
              exact ⟨by rw [HR.out]; rfl, below_dn HB3.out⟩
            · have d1 : x.dt.toList.isEmpty = false := by rw [he]; simp [d0]
              have D0 := hide d0
              clear he d0
              by_cases d2 : x.dt.size % 64 = 0
              · have d3 : (((x.dt.size : Int).tmod 64) != 0) = false := by rw [Int.tmod_eq_emod_of_nonneg (by omega)]; simp; omega
                have d3' : (((x.dt.size : Int) % 64) != 0) = false := by simp; omega
                have D2 := hide d2
                clear d2
                go_quiet ((go_at_call 26; exact Calls.quiet_of_same (HN.out _)))
                go_wp2_with fail
                have hus := fun (dd : Nat) (os : Array Obj) => rused_any (some ⟨b, o, none⟩) cE (d.exts.take (m + 1 + 1)) (grow (redrawn W3 dd) os) (((HE.out.take2 (m + 1 + 1)).below (HB3.out.trans ((below_regrown W3 dd os).mono HB3.out.size))).more (by have := (below_regrown W3 dd os).size; have := HB3.out.size; omega)) (by rw [List.length_take]; omega) (fun z hz => HZ.out.ext z (List.mem_of_mem_take hz))
                obtain ⟨k1, hk1⟩ : ∃ k1, k1 = m + 1 + 1 := ⟨_, rfl⟩
                have hlk : (d.exts.take (m + 1 + 1)).length = k1 := by rw [List.length_take]; omega
                obtain ⟨q, hq⟩ : ∃ q, q = usedE (d.exts.take (m + 1 + 1)) := ⟨_, rfl⟩
                rw [← hq, hlk] at hus
                have cf := fun (n dd : Nat) os => Calls.regrown_of (w := W3.drewN n) (d := dd) (os := os) (hus dd os)
                have CF := hide cf
                have hmx : Tryz.prog.follows .mixedOrders = true := by kernel_rfl
                have m0 := fun (n : Nat) => cell_regrown (w := W3.drewN n) c0
                have m1 := fun (n : Nat) => cell_regrown (w := W3.drewN n) c1
                have wk1 : IntKind.i64.wrap ((m : Int) + 1 + 1) = (k1 : Int) := by rw [IntWalk.i64_in _ ⟨by omega, by omega⟩]; omega
                have wk2 : k1 ≤ cE := by omega
                have wk3 : (k1 : Int) ≤ (cE : Int) := by omega
                have HQ := hide hq
                have HK1 := hide hk1
                clear hus cf hq hk1 hlk c0 c1 c2 c3 c4
                refine wp_region_quiet_below hmx (by kernel_rfl) ?_
                repeat (quiet_step (with_reducible exact CF.out _ _ _))
                refine wpQuiet_nil ?_
                intro w5 hw'
                obtain ⟨⟨dq, osq⟩, hw''⟩ := hw'
                have hw5 : w5 = grow (redrawn W3 dq) osq := hw''
                clear hw''
                have hb5 := below_regrown W3 dq osq
                rw [← hw5] at hb5
                have HB5 := hide (HB3.out.trans (hb5.mono HB3.out.size))
                have HK5 := hide (HK3.out.keep hb5)
                obtain ⟨c0, c1, c2, c3, c4⟩ := five_cells HK5.out
                clear CF m0 m1 hw5 hb5 y0 y1 wk1 wk2 wk3 HK3
                by_cases hqs : d.size < (q : Int)
                · have HR := hide (each_no HX.out fun h => by have h5 := h.2.2.2.2; have h6 := HQ.out; rw [← h6] at h5; omega)
                  have hqd : decide (d.size < (q : Int)) = true := decide_eq_true hqs
                  go_wp2_with fail
                  go_ret
                  exact ⟨by rw [HR.out]; rfl, HB5.out⟩
                · have HP := hide (show eachP d (m + 1) x from ⟨HU.out.symm, fun y _ hy => by rw [HPm.out] at hy; obtain rfl := Option.some.inj hy; exact HLs.out, by have := D0.out; omega, D2.out, by rw [← HQ.out]; omega⟩)
                  have hqd : decide (d.size < (q : Int)) = false := decide_eq_false hqs
                  go_wp2_with fail
                  exact ⟨⟨m + 1 + 1, by simp, by omega, HB5, HK5, hide (each_step hinv.out HX.out HP.out)⟩, by simp [intOf]; omega⟩
              · have d3 : (((x.dt.size : Int).tmod 64) != 0) = true := by rw [Int.tmod_eq_emod_of_nonneg (by omega)]; simp; omega
                have d3' : (((x.dt.size : Int) % 64) != 0) = true := by simp; omega
                have D2 := hide d2
                clear d2
                have HR := hide (each_no HX.out fun h => by exact D2.out h.2.2.2.1)
                go_quiet ((go_at_call 26; exact Calls.quiet_of_same (HN.out _)))
                go_wp2_with fail
                go_ret
                exact ⟨by rw [HR.out]; rfl, below_dn HB3.out⟩
    · obtain rfl : k = d.exts.length := by omega
      have HRise := hide (each_rise hinv.out)
      go_wp2_with fail
      go_loopw [86] (fun iv wz => ∃ k : Nat, iv = .int .i64 k ∧ k ≤ d.waits.length ∧ Hid (Below w.heap.size w wz) ∧ Hid (Bk wz w.heap.size 25 #[.int .i64 d.size, .slice AE d.exts.length cE, .slice AW d.waits.length cW, .int .i64 d.fuse, .bool d.down]) ∧ Hid (∀ j y, j < k → d.waits[j]? = some y → waitP d.exts y)) (fun i _ => d.waits.length - (intOf i).toNat)
      case atStart => exact ⟨0, rfl, by omega, hB, hK, hide (fun j y hj => by omega)⟩
      case round =>
        clear hB hK c0 c1 c2 c3 c4
        obtain ⟨k, rfl, hk, hB, hK, hwv⟩ := hrel
        obtain ⟨c0, c1, c2, c3, c4⟩ := five_cells hK.out
        have hl0 := hK.out.lt
        by_cases hlt2 : k < d.waits.length
        · obtain ⟨y, hy⟩ : ∃ y, d.waits[k]? = some y := ⟨d.waits[k], List.getElem?_eq_getElem hlt2⟩
          obtain ⟨b, o, rfl, hb, x0, x1, x2⟩ := wt_cells (HW.out.below hB.out) hy
          have hbr : b < wr.heap.size := Nat.lt_of_lt_of_le hb hB.out.size
          have HY := hide hy
          obtain ⟨W3, hW3⟩ : ∃ W3, W3 = wr.alloc (.cells #[.string y.nm, .int .i64 y.sec, .string y.dt] 77) := ⟨_, rfl⟩
          go_upto_region 14 with fail
          rw [← hW3]
          have hb3 : Below wr.heap.size wr W3 := by rw [hW3]; exact ba1 _ _
          have k3 : Bk W3 wr.heap.size 77 #[.string y.nm, .int .i64 y.sec, .string y.dt] := by rw [hW3]; exact Bk.new _ _ _
          have kd3 := hK.out.keep hb3
          have HB3 := hide (hB.out.trans (hb3.mono hB.out.size))
          have hl4 := kd3.lt
          have hl5 := k3.lt
          have HK3 := hide kd3
          have HKy := hide k3
          clear c0 c1 c2 c3 c4 x0 x1 x2 hy hW3 hb3 hK k3
          obtain ⟨c0, c1, c2, c3, c4⟩ := five_cells HK3.out
          obtain ⟨y0, y1, y2⟩ := cells3 HKy.out
          have hfi := rfind_any AE cE d.exts y.nm W3 ((HE.out.below HB3.out).more HB3.out.size) h1
          obtain ⟨f, hf⟩ : ∃ f, f = fndI d.exts y.nm := ⟨_, rfl⟩
          rw [← hf] at hfi
          have HFi := hide hfi
          have HF := hide hf
          clear hfi hf
          go_upto_region 15 with (go_at_call 15; refine Calls.mono HFi.out ?_; rintro e w4 ⟨rfl, hb4⟩; have kd4 := HK3.out.keep hb4; have ky4 := HKy.out.keep hb4; have HB4 := hide (HB3.out.trans (hb4.mono HB3.out.size)); obtain ⟨c0, c1, c2, c3, c4⟩ := five_cells kd4; obtain ⟨y0, y1, y2⟩ := cells3 ky4; have hl6 := kd4.lt; have hl7 := ky4.lt; have HK4 := hide kd4; clear hb4 kd4 ky4)
          clear HFi HKy HK3 hl4 hl5 hl0
          rcases fnd_at (l := d.exts) (s := y.nm) with ⟨hf1, hno⟩ | ⟨fk, x, hf1, hxk, hxn⟩
          · rw [← HF.out] at hf1
            subst hf1
            have HR := hide (wait_no (List.mem_of_getElem? HY.out) fun ⟨x, hx, e, _⟩ => hno x hx e)
            clear hno HF
            go_quiet (fail)
            go_wp2_with fail
            go_ret
            exact ⟨by rw [HR.out]; rfl, below_dn HB4.out⟩
          · rw [← HF.out] at hf1
            subst hf1
            have hfk : fk < d.exts.length := (List.getElem?_eq_some_iff.1 hxk).1
            have hw1 : waitP d.exts y ↔ (0 ≤ y.sec ∧ y.sec < (secsE x : Nat) ∧ y.dt.size = 64) := by
              constructor
              · rintro ⟨x', hx', e, g1, g2, g3⟩
                have := rise_inj HRise.out (List.mem_of_getElem? hxk) hx' (hxn.trans e.symm)
                rw [this]
                exact ⟨g1, g2, g3⟩
              · rintro ⟨g1, g2, g3⟩
                exact ⟨x, List.mem_of_getElem? hxk, hxn, g1, g2, g3⟩
            have HWp := hide hw1
            obtain ⟨bx, ox, rfl, hbx, z0, z1⟩ := ext_cells (HE.out.below HB4.out) hxk
            have hbx2 : bx < w4.heap.size := Nat.lt_of_lt_of_le hbx HB4.out.size
            have hdx := HZ.out.ext x (List.mem_of_getElem? hxk)
            obtain ⟨q, hq⟩ : ∃ q, q = secsE x := ⟨_, rfl⟩
            rw [← hq] at HWp
            have hdv : (x.dt.size : Int).tdiv 64 = (q : Int) := by rw [hq, Int.tdiv_eq_ediv_of_nonneg (by omega)]; unfold secsE; omega
            have hdv' : (x.dt.size : Int) / 64 = (q : Int) := by rw [hq]; unfold secsE; omega
            have f0 : decide ((fk : Int) < 0) = false := decide_eq_false (by omega)
            have f1 : (fk : Int) < (d.exts.length : Int) := by omega
            clear hw1 hxk hxn hq HF
            by_cases s0 : y.sec < 0
            · have HR := hide (wait_no (List.mem_of_getElem? HY.out) fun h => by have := (HWp.out.1 h).1; omega)
              have s1 : decide (y.sec < 0) = true := decide_eq_true s0
              go_quiet (fail)
              go_wp2_with fail
              go_ret
              exact ⟨by rw [HR.out]; rfl, below_dn HB4.out⟩
            · have s1 : decide (y.sec < 0) = false := decide_eq_false s0
              by_cases s2 : (q : Int) ≤ y.sec
              · have HR := hide (wait_no (List.mem_of_getElem? HY.out) fun h => by have := (HWp.out.1 h).2.1; omega)
                have s3 : decide ((q : Int) ≤ y.sec) = true := decide_eq_true s2
                go_quiet (fail)
                go_wp2_with fail
                go_ret
                exact ⟨by rw [HR.out]; rfl, below_dn HB4.out⟩
              · have s3 : decide ((q : Int) ≤ y.sec) = false := decide_eq_false s2
                by_cases s4 : y.dt.size = 64
                · have s5 : ((y.dt.size : Int) != 64) = false := by simp; omega
                  have HP := hide (HWp.out.2 ⟨by omega, by omega, s4⟩)
                  clear s4
                  go_quiet (fail)
                  go_wp2_with fail
                  exact ⟨⟨k + 1, by simp, by omega, hide (below_dn HB4.out), HK4, hide (wait_step hwv.out HY.out HP.out)⟩, by simp [intOf]; omega⟩
                · have s5 : ((y.dt.size : Int) != 64) = true := by simp; omega
                  have HR := hide (wait_no (List.mem_of_getElem? HY.out) fun h => s4 (HWp.out.1 h).2.2)
                  clear s4
                  go_quiet (fail)
                  go_wp2_with fail
                  go_ret
                  exact ⟨by rw [HR.out]; rfl, below_dn HB4.out⟩
        · obtain rfl : k = d.waits.length := by omega
          have HR := hide (show checkD d = 0 from check_ok (rightR_iff.1 ⟨⟨HHd.out.1, HHd.out.2.1⟩, HHd.out.2.2.1, HHd.out.2.2.2.1, HHd.out.2.2.2.2, fun i x hx => hinv.out i x (List.getElem?_eq_some_iff.1 hx).1 hx, fun y hy => by
            obtain ⟨j, hj⟩ := List.mem_iff_getElem?.1 hy
            exact hwv.out j y (List.getElem?_eq_some_iff.1 hj).1 hj⟩))
          go_wp2_with fail
          go_ret
          exact ⟨by rw [HR.out]; rfl, hB.out⟩
end Go.Proofs.YtmbonieeapbpoaaGreatDoor
/- Walks: world.Do at a put, and at a get (printed by gen_fst.py). -/
namespace Go.Proofs.YtmbonieeapbpoaaGreatDoor
open Go.RowKit

theorem put6_fr (w : World) (b : Nat) (a0 a1 a2 a3 a4 a5 : Value) : Fr (fun k => k = b) w (put6 w b a0 a1 a2 a3 a4 a5) :=
  ((((((Fr.refl (fun k => k = b) w).setCell (p := ⟨b, 0, none⟩) (.inl rfl) a0).setCell (p := ⟨b, 1, none⟩) (.inl rfl) a1).setCell (p := ⟨b, 2, none⟩) (.inl rfl) a2).setCell (p := ⟨b, 3, none⟩) (.inl rfl) a3).setCell (p := ⟨b, 4, none⟩) (.inl rfl) a4).setCell (p := ⟨b, 5, none⟩) (.inl rfl) a5
set_option maxRecDepth 100000 in
set_option maxHeartbeats 8000000 in
theorem do_put (V : Value) (d : Dsk) (b : Int) (nm tx : ByteArray) (A : Option Addr) (c : Nat) (w : World) (hv : WvR w w.heap.size V d b) (hz : SzD d) (hw : worldE d b = 0) (hn : nm.size ≤ 1000000) (ht : tx.size ≤ 65536) (hm : mayB nm = true) :
    Calls Tryz.prog 16 #[V, .agg #[.int .u8 1, .string nm, .string ⟨#[]⟩, .string tx, .int .i64 0, .slice A 0 c]] w fun e w' => (∃ V', e = .returned (.tuple #[V', .string ⟨#[]⟩, .int .i64 (putD d nm 0 tx.size tx).2]) ∧ WvQ w' V' (putD d nm 0 tx.size tx).1 b) ∧ Below w.heap.size w w' := by
  obtain ⟨⟨d7, z7⟩, hp7⟩ : ∃ r, r = putD d nm 0 tx.size tx := ⟨_, rfl⟩
  rw [← hp7]
  have hck := fun W (h : Below w.heap.size w W) => wcheck_any V d b W ((hv.below h).more h.size) hz
  have how := fun W (h : Below w.heap.size w W) => wown_any V d b W ((hv.below h).more h.size) hz
  rw [hw] at hck
  have hrt := fun W => wright_any 1 nm ⟨#[]⟩ tx 0 [] A c W (by omega) (by decide) (by omega) (by decide)
  have hus := fun W => users_any 1 nm ⟨#[]⟩ tx 0 [] A 0 c W
  have hr1 : rightS ⟨1, nm, ⟨#[]⟩, tx, 0, []⟩ = true := by unfold rightS hasNm hasTo hasN; rfl
  have hu1 : usersB ⟨1, nm, ⟨#[]⟩, tx, 0, []⟩ = true := by unfold usersB; rw [if_pos (.inl rfl)]; exact hm
  rw [hr1] at hrt
  rw [hu1] at hus
  obtain ⟨AE, cE, AW, cW, rfl, hE, hW⟩ := hv
  obtain ⟨W0, hW0⟩ : ∃ W0, W0 = ((w.alloc (.cells #[.int .i64 d.size, .slice AE d.exts.length cE, .slice AW d.waits.length cW, .int .i64 d.fuse, .bool d.down, .int .i64 b] 27)).alloc (.cells #[.int .u8 1, .string nm, .string ⟨#[]⟩, .string tx, .int .i64 0, .slice A 0 c] 46)).alloc (.cells #[.int .i64 0, .slice none 0 0, .slice none 0 0, .int .i64 0, .bool false, .int .i64 0] 27) := ⟨_, rfl⟩
  have hb0 : Below w.heap.size w W0 := by rw [hW0]; exact btrans (ba2 _ _ _) (ba1 _ _)
  have k0 : Bk W0 w.heap.size 27 #[.int .i64 d.size, .slice AE d.exts.length cE, .slice AW d.waits.length cW, .int .i64 d.fuse, .bool d.down, .int .i64 b] := by rw [hW0]; exact ((Bk.new _ _ _).alloc _).alloc _
  have k1 : Bk W0 (w.heap.size + 1) 46 #[.int .u8 1, .string nm, .string ⟨#[]⟩, .string tx, .int .i64 0, .slice A 0 c] := by rw [hW0]; exact (Bk.new1 _ _ _ _).alloc _
  have k2 : Bk W0 (w.heap.size + 1 + 1) 27 #[.int .i64 0, .slice none 0 0, .slice none 0 0, .int .i64 0, .bool false, .int .i64 0] := by rw [hW0]; exact Bk.new2 _ _ _ _ _
  have p0 := k0.cell 0
  have p1 := k0.cell 1
  have p2 := k0.cell 2
  have p3 := k0.cell 3
  have p4 := k0.cell 4
  have p5 := k0.cell 5
  have lp := k0.lt
  have HCk := hide (hck W0 hb0)
  have HOw := hide how
  have HRt := hide (show ∀ W, Calls Tryz.prog 28 #[.agg #[.int .u8 1, .string nm, .string ⟨#[]⟩, .string tx, .int .i64 0, .slice A 0 c]] W fun e w' => e = .returned (.bool true) ∧ Below W.heap.size W w' from hrt)
  have HUs := hide (show ∀ W, Calls Tryz.prog 29 #[.agg #[.int .u8 1, .string nm, .string ⟨#[]⟩, .string tx, .int .i64 0, .slice A 0 c]] W fun e w' => e = .returned (.bool true) ∧ Below W.heap.size W w' from hus)
  have HW0 := hide hW0
  have HB0 := hide hb0
  have HK0 := hide k0
  have HK1 := hide k1
  have HK2 := hide k2
  have HZ := hide hz
  clear hck how hrt hus hr1 hu1 hE hW hW0 hb0 k0 k1 k2 hz hw hm
  go_enter Tryz.func16, Tryz.ntmps16
  go_upto_region 5 with (first
    | (have hx := HB1; clear hx; go_at_call 27; refine Calls.mono (HOw.out _ HB1.out) ?_; rintro e w2 ⟨⟨V2, rfl, hq2⟩, hb2⟩; obtain ⟨AE2, cE2, AW2, cW2, rfl, h1, h2⟩ := hq2; have m0 := HM0.out.keep hb2; have m1 := HM1.out.keep hb2; have m2 := HM2.out.keep hb2; have x0 := m0.cell 0; have x1 := m0.cell 1; have x2 := m0.cell 2; have x3 := m0.cell 3; have x4 := m0.cell 4; have x5 := m0.cell 5; have fx0 := m0.free 0; have fx1 := m0.free 1; have fx2 := m0.free 2; have fx3 := m0.free 3; have fx4 := m0.free 4; have fx5 := m0.free 5; have lx := m0.lt; have HQ2 := hide (show WvQ w2 (.agg #[.int .i64 d.size, .slice AE2 d.exts.length cE2, .slice AW2 d.waits.length cW2, .int .i64 d.fuse, .bool d.down, .int .i64 b]) d b from ⟨AE2, cE2, AW2, cW2, rfl, h1, h2⟩); have HN0 := hide m0; have HN1 := hide m1; have HN2 := hide m2; have HB2 := hide (HB1.out.trans (hb2.mono HB1.out.size)); clear hb2 m0 m1 m2 h1 h2)
    | (go_at_call 12; rw [← HW0.out]; refine Calls.mono HCk.out ?_; rintro e w1 ⟨rfl, hb1⟩; have m0 := HK0.out.keep hb1; have y0 := m0.cell 0; have y1 := m0.cell 1; have y2 := m0.cell 2; have y3 := m0.cell 3; have y4 := m0.cell 4; have y5 := m0.cell 5; have ly := m0.lt; have HM0 := hide m0; have HM1 := hide (HK1.out.keep hb1); have HM2 := hide (HK2.out.keep hb1); have HB1 := hide (HB0.out.trans (hb1.mono HB0.out.size)); clear hb1 m0))
  obtain ⟨W3, hW3⟩ : ∃ W3, W3 = put6 w2 w.heap.size (.int .i64 d.size) (.slice AE2 d.exts.length cE2) (.slice AW2 d.waits.length cW2) (.int .i64 d.fuse) (.bool d.down) (.int .i64 b) := ⟨_, rfl⟩
  rw [show ((((((w2.setCell ⟨w.heap.size, 0, none⟩ (.int .i64 d.size)).setCell ⟨w.heap.size, 1, none⟩ (.slice AE2 d.exts.length cE2)).setCell ⟨w.heap.size, 2, none⟩ (.slice AW2 d.waits.length cW2)).setCell ⟨w.heap.size, 3, none⟩ (.int .i64 d.fuse)).setCell ⟨w.heap.size, 4, none⟩ (.bool d.down)).setCell ⟨w.heap.size, 5, none⟩ (.int .i64 b)) = W3 from hW3.symm]
  have q0 := put6_bk HN0.out (.int .i64 d.size) (.slice AE2 d.exts.length cE2) (.slice AW2 d.waits.length cW2) (.int .i64 d.fuse) (.bool d.down) (.int .i64 b)
  have q1 := HN1.out.fr (put6_fr w2 w.heap.size (.int .i64 d.size) (.slice AE2 d.exts.length cE2) (.slice AW2 d.waits.length cW2) (.int .i64 d.fuse) (.bool d.down) (.int .i64 b)) (by omega)
  have q2 := HN2.out.fr (put6_fr w2 w.heap.size (.int .i64 d.size) (.slice AE2 d.exts.length cE2) (.slice AW2 d.waits.length cW2) (.int .i64 d.fuse) (.bool d.down) (.int .i64 b)) (by omega)
  have qq := HQ2.out.put6 HN0.out (.int .i64 d.size) (.slice AE2 d.exts.length cE2) (.slice AW2 d.waits.length cW2) (.int .i64 d.fuse) (.bool d.down) (.int .i64 b)
  have qb := put6_below HB2.out (Nat.le_refl _) (.int .i64 d.size) (.slice AE2 d.exts.length cE2) (.slice AW2 d.waits.length cW2) (.int .i64 d.fuse) (.bool d.down) (.int .i64 b)
  rw [← hW3] at q0 q1 q2 qq qb
  have s0 := q1.cell 0
  have s1 := q1.cell 1
  have s2 := q1.cell 2
  have s3 := q1.cell 3
  have s4 := q1.cell 4
  have s5 := q1.cell 5
  have ls := q1.lt
  have HP0 := hide q0
  have HP1 := hide q1
  have HP2 := hide q2
  have HQ := hide qq
  have HB := hide qb
  clear q0 q1 q2 qq qb hW3 HN0 HN1 HN2 HQ2 HB2 x0 x1 x2 x3 x4 x5 fx0 fx1 fx2 fx3 fx4 fx5
  go_upto_region 11 with (first
    | (go_at_call 28; refine Calls.mono (HRt.out _) ?_; rintro e w4 ⟨rfl, hb4⟩; have m1 := HP1.out.keep hb4; have s0 := m1.cell 0; have s1 := m1.cell 1; have s2 := m1.cell 2; have s3 := m1.cell 3; have s4 := m1.cell 4; have s5 := m1.cell 5; have ls := m1.lt; have HP0 := hide (HP0.out.keep hb4); have HP1 := hide m1; have HP2 := hide (HP2.out.keep hb4); have HQ := hide (HQ.out.keep hb4); have HB := hide (HB.out.trans (hb4.mono HB.out.size)); clear hb4 m1)
    | (go_at_call 29; refine Calls.mono (HUs.out _) ?_; rintro e w5 ⟨rfl, hb5⟩; have m0 := HP0.out.keep hb5; have m1 := HP1.out.keep hb5; have x0 := m0.cell 0; have x1 := m0.cell 1; have x2 := m0.cell 2; have x3 := m0.cell 3; have x4 := m0.cell 4; have x5 := m0.cell 5; have s0 := m1.cell 0; have s1 := m1.cell 1; have s2 := m1.cell 2; have s3 := m1.cell 3; have s4 := m1.cell 4; have s5 := m1.cell 5; have ls := m1.lt; have lx := m0.lt; have HP0 := hide m0; have HP1 := hide m1; have HP2 := hide (HP2.out.keep hb5); have HQ := hide (HQ.out.keep hb5); have HB := hide (HB.out.trans (hb5.mono HB.out.size)); clear hb5 m0 m1))
  obtain ⟨W6, hW6⟩ : ∃ W6, W6 = w5.alloc (.cells #[.int .i64 d.size, .slice AE2 d.exts.length cE2, .slice AW2 d.waits.length cW2, .int .i64 d.fuse, .bool d.down] 25) := ⟨_, rfl⟩
  rw [← hW6]
  have hb6 : Below w5.heap.size w5 W6 := by rw [hW6]; exact ba1 _ _
  have k6 : Bk W6 w5.heap.size 25 #[.int .i64 d.size, .slice AE2 d.exts.length cE2, .slice AW2 d.waits.length cW2, .int .i64 d.fuse, .bool d.down] := by rw [hW6]; exact Bk.new _ _ _
  have q0 := HP0.out.keep hb6
  have q1 := HP1.out.keep hb6
  have q2 := HP2.out.keep hb6
  have qq := HQ.out.keep hb6
  have hdv : Dv W6 W6.heap.size (.agg #[.int .i64 d.size, .slice AE2 d.exts.length cE2, .slice AW2 d.waits.length cW2, .int .i64 d.fuse, .bool d.down]) d := by
    obtain ⟨a1, a2, a3, a4, e, h1, h2⟩ := qq.r
    cases e
    exact ⟨_, _, _, _, rfl, h1, h2⟩
  have s0 := q1.cell 0
  have s1 := q1.cell 1
  have s2 := q1.cell 2
  have s3 := q1.cell 3
  have s4 := q1.cell 4
  have s5 := q1.cell 5
  have x0 := q0.cell 0
  have x1 := q0.cell 1
  have x2 := q0.cell 2
  have x3 := q0.cell 3
  have x4 := q0.cell 4
  have x5 := q0.cell 5
  have fx0 := q0.free 0
  have fx1 := q0.free 1
  have fx2 := q0.free 2
  have fx3 := q0.free 3
  have fx4 := q0.free 4
  have fx5 := q0.free 5
  have r0 := q2.cell 0
  have r1 := q2.cell 1
  have r2 := q2.cell 2
  have r3 := q2.cell 3
  have r4 := q2.cell 4
  have r5 := q2.cell 5
  have fr0 := q2.free 0
  have fr1 := q2.free 1
  have fr2 := q2.free 2
  have fr3 := q2.free 3
  have fr4 := q2.free 4
  have fr5 := q2.free 5
  have t0 := k6.cell 0
  have t1 := k6.cell 1
  have t2 := k6.cell 2
  have t3 := k6.cell 3
  have t4 := k6.cell 4
  have l0 := q0.lt
  have l1 := q1.lt
  have l2 := q2.lt
  have l6 := k6.lt
  have HDv := hide hdv
  have HP0 := hide q0
  have HP1 := hide q1
  have HP2 := hide q2
  have HQ := hide qq
  have HB := hide (HB.out.trans (hb6.mono HB.out.size))
  clear q0 q1 q2 qq hdv k6 hb6 hW6
  have HWt := hide (writeText_any _ d nm tx W6 HDv.out HZ.out ht)
  rw [← hp7] at HWt
  go_upto_region 29 with (go_at_call 30; refine Calls.mono HWt.out ?_; rintro e w7 ⟨⟨v7, rfl, hq7⟩, hb7⟩; obtain ⟨AE7, cE7, AW7, cW7, rfl, h1, h2⟩ := hq7; have q0 := HP0.out.keep hb7; have q2 := HP2.out.keep hb7; have x0 := q0.cell 0; have x1 := q0.cell 1; have x2 := q0.cell 2; have x3 := q0.cell 3; have x4 := q0.cell 4; have x5 := q0.cell 5; have fx0 := q0.free 0; have fx1 := q0.free 1; have fx2 := q0.free 2; have fx3 := q0.free 3; have fx4 := q0.free 4; have fx5 := q0.free 5; have l0 := q0.lt; have H1 := hide h1; have H2 := hide h2; have HP0 := hide q0; have HP2 := hide q2; have HB := hide (HB.out.trans (hb7.mono HB.out.size)); clear q0 q2 h1 h2 hb7)
  obtain ⟨W8, hW8⟩ : ∃ W8, W8 = pt5 w7 w.heap.size (.int .i64 d7.size) (.slice AE7 d7.exts.length cE7) (.slice AW7 d7.waits.length cW7) (.int .i64 d7.fuse) (.bool d7.down) := ⟨_, rfl⟩
  rw [show (((((w7.setCell ⟨w.heap.size, 0, none⟩ (.int .i64 d7.size)).setCell ⟨w.heap.size, 1, none⟩ (.slice AE7 d7.exts.length cE7)).setCell ⟨w.heap.size, 2, none⟩ (.slice AW7 d7.waits.length cW7)).setCell ⟨w.heap.size, 3, none⟩ (.int .i64 d7.fuse)).setCell ⟨w.heap.size, 4, none⟩ (.bool d7.down)) = W8 from hW8.symm]
  have q0 := pt5_bk6 HP0.out (.int .i64 d7.size) (.slice AE7 d7.exts.length cE7) (.slice AW7 d7.waits.length cW7) (.int .i64 d7.fuse) (.bool d7.down)
  have q2 := HP2.out.fr (pt5_fr w7 w.heap.size (.int .i64 d7.size) (.slice AE7 d7.exts.length cE7) (.slice AW7 d7.waits.length cW7) (.int .i64 d7.fuse) (.bool d7.down)) (by omega)
  have qq : WvQ (pt5 w7 w.heap.size (.int .i64 d7.size) (.slice AE7 d7.exts.length cE7) (.slice AW7 d7.waits.length cW7) (.int .i64 d7.fuse) (.bool d7.down)) (.agg #[.int .i64 d7.size, .slice AE7 d7.exts.length cE7, .slice AW7 d7.waits.length cW7, .int .i64 d7.fuse, .bool d7.down, .int .i64 b]) d7 b := ⟨AE7, cE7, AW7, cW7, rfl, own_pt5 H1.out (fun e => own_ne H1.out HP0.out (by decide) e.symm) _ _ _ _ _, own_pt5 H2.out (fun e => own_ne H2.out HP0.out (by decide) e.symm) _ _ _ _ _⟩
  have qb : Below w.heap.size w (pt5 w7 w.heap.size (.int .i64 d7.size) (.slice AE7 d7.exts.length cE7) (.slice AW7 d7.waits.length cW7) (.int .i64 d7.fuse) (.bool d7.down)) := HB.out.trans ((pt5_fr w7 w.heap.size _ _ _ _ _).toBelowB (fun k hk => by subst hk; exact Nat.le_refl _) HB.out.size)
  rw [← hW8] at q0 q2 qq qb
  clear hW8 x0 x1 x2 x3 x4 x5 fx0 fx1 fx2 fx3 fx4 fx5 r0 r1 r2 r3 r4 r5 fr0 fr1 fr2 fr3 fr4 fr5 t0 t1 t2 t3 t4 s0 s1 s2 s3 s4 s5
  have x0 := q0.cell 0
  have x1 := q0.cell 1
  have x2 := q0.cell 2
  have x3 := q0.cell 3
  have x4 := q0.cell 4
  have x5 := q0.cell 5
  have r0 := q2.cell 0
  have r1 := q2.cell 1
  have r2 := q2.cell 2
  have r3 := q2.cell 3
  have r4 := q2.cell 4
  have r5 := q2.cell 5
  have fr0 := q2.free 0
  have fr1 := q2.free 1
  have fr2 := q2.free 2
  have fr3 := q2.free 3
  have fr4 := q2.free 4
  have fr5 := q2.free 5
  have l0 := q0.lt
  have l2 := q2.lt
  have HE2 := hide q2
  have HQ := hide qq
  have HB := hide qb
  clear q0 q2 qq qb HP0 HP1 HP2
  go_wp2_with fail
  refine bodyPost_ret (v := .tuple #[.agg #[_, _, _, _, _, _], .string ⟨#[]⟩, .int .i64 z7]) (res_w3 Tryz.results16 (put6_bk HE2.out _ _ _ _ _ _) rfl rfl rfl) rfl ?_
  exact ⟨⟨_, rfl, HQ.out.put6 HE2.out _ _ _ _ _ _⟩, put6_below HB.out (by omega) _ _ _ _ _ _⟩
set_option maxRecDepth 100000 in
set_option maxHeartbeats 8000000 in
theorem do_get (V : Value) (d : Dsk) (b : Int) (nm : ByteArray) (A : Option Addr) (c : Nat) (w : World) (hv : WvR w w.heap.size V d b) (hz : SzD d) (hw : worldE d b = 0) (hn : nm.size ≤ 1000000) :
    Calls Tryz.prog 16 #[V, .agg #[.int .u8 2, .string nm, .string ⟨#[]⟩, .string ⟨#[]⟩, .int .i64 0, .slice A 0 c]] w fun e w' => (∃ V', e = .returned (.tuple #[V', .string (bodyD d nm true).2.1, .int .i64 (bodyD d nm true).2.2]) ∧ WvQ w' V' d b) ∧ Below w.heap.size w w' := by
  obtain ⟨⟨n7, t7, z7⟩, hp7⟩ : ∃ r, r = bodyD d nm true := ⟨_, rfl⟩
  rw [← hp7]
  have hck := fun W (h : Below w.heap.size w W) => wcheck_any V d b W ((hv.below h).more h.size) hz
  have how := fun W (h : Below w.heap.size w W) => wown_any V d b W ((hv.below h).more h.size) hz
  rw [hw] at hck
  have hrt := fun W => wright_any 2 nm ⟨#[]⟩ ⟨#[]⟩ 0 [] A c W (by omega) (by decide) (by decide) (by decide)
  have hus := fun W => users_any 2 nm ⟨#[]⟩ ⟨#[]⟩ 0 [] A 0 c W
  have hr1 : rightS ⟨2, nm, ⟨#[]⟩, ⟨#[]⟩, 0, []⟩ = true := by unfold rightS hasNm hasTo hasN; rfl
  have hu1 : usersB ⟨2, nm, ⟨#[]⟩, ⟨#[]⟩, 0, []⟩ = true := rfl
  rw [hr1] at hrt
  rw [hu1] at hus
  obtain ⟨AE, cE, AW, cW, rfl, hE, hW⟩ := hv
  obtain ⟨W0, hW0⟩ : ∃ W0, W0 = ((w.alloc (.cells #[.int .i64 d.size, .slice AE d.exts.length cE, .slice AW d.waits.length cW, .int .i64 d.fuse, .bool d.down, .int .i64 b] 27)).alloc (.cells #[.int .u8 2, .string nm, .string ⟨#[]⟩, .string ⟨#[]⟩, .int .i64 0, .slice A 0 c] 46)).alloc (.cells #[.int .i64 0, .slice none 0 0, .slice none 0 0, .int .i64 0, .bool false, .int .i64 0] 27) := ⟨_, rfl⟩
  have hb0 : Below w.heap.size w W0 := by rw [hW0]; exact btrans (ba2 _ _ _) (ba1 _ _)
  have k0 : Bk W0 w.heap.size 27 #[.int .i64 d.size, .slice AE d.exts.length cE, .slice AW d.waits.length cW, .int .i64 d.fuse, .bool d.down, .int .i64 b] := by rw [hW0]; exact ((Bk.new _ _ _).alloc _).alloc _
  have k1 : Bk W0 (w.heap.size + 1) 46 #[.int .u8 2, .string nm, .string ⟨#[]⟩, .string ⟨#[]⟩, .int .i64 0, .slice A 0 c] := by rw [hW0]; exact (Bk.new1 _ _ _ _).alloc _
  have k2 : Bk W0 (w.heap.size + 1 + 1) 27 #[.int .i64 0, .slice none 0 0, .slice none 0 0, .int .i64 0, .bool false, .int .i64 0] := by rw [hW0]; exact Bk.new2 _ _ _ _ _
  have p0 := k0.cell 0
  have p1 := k0.cell 1
  have p2 := k0.cell 2
  have p3 := k0.cell 3
  have p4 := k0.cell 4
  have p5 := k0.cell 5
  have lp := k0.lt
  have HCk := hide (hck W0 hb0)
  have HOw := hide how
  have HRt := hide (show ∀ W, Calls Tryz.prog 28 #[.agg #[.int .u8 2, .string nm, .string ⟨#[]⟩, .string ⟨#[]⟩, .int .i64 0, .slice A 0 c]] W fun e w' => e = .returned (.bool true) ∧ Below W.heap.size W w' from hrt)
  have HUs := hide (show ∀ W, Calls Tryz.prog 29 #[.agg #[.int .u8 2, .string nm, .string ⟨#[]⟩, .string ⟨#[]⟩, .int .i64 0, .slice A 0 c]] W fun e w' => e = .returned (.bool true) ∧ Below W.heap.size W w' from hus)
  have HW0 := hide hW0
  have HB0 := hide hb0
  have HK0 := hide k0
  have HK1 := hide k1
  have HK2 := hide k2
  have HZ := hide hz
  clear hck how hrt hus hr1 hu1 hE hW hW0 hb0 k0 k1 k2 hz hw
  go_enter Tryz.func16, Tryz.ntmps16
  go_upto_region 5 with (first
    | (have hx := HB1; clear hx; go_at_call 27; refine Calls.mono (HOw.out _ HB1.out) ?_; rintro e w2 ⟨⟨V2, rfl, hq2⟩, hb2⟩; obtain ⟨AE2, cE2, AW2, cW2, rfl, h1, h2⟩ := hq2; have m0 := HM0.out.keep hb2; have m1 := HM1.out.keep hb2; have m2 := HM2.out.keep hb2; have x0 := m0.cell 0; have x1 := m0.cell 1; have x2 := m0.cell 2; have x3 := m0.cell 3; have x4 := m0.cell 4; have x5 := m0.cell 5; have fx0 := m0.free 0; have fx1 := m0.free 1; have fx2 := m0.free 2; have fx3 := m0.free 3; have fx4 := m0.free 4; have fx5 := m0.free 5; have lx := m0.lt; have HQ2 := hide (show WvQ w2 (.agg #[.int .i64 d.size, .slice AE2 d.exts.length cE2, .slice AW2 d.waits.length cW2, .int .i64 d.fuse, .bool d.down, .int .i64 b]) d b from ⟨AE2, cE2, AW2, cW2, rfl, h1, h2⟩); have HN0 := hide m0; have HN1 := hide m1; have HN2 := hide m2; have HB2 := hide (HB1.out.trans (hb2.mono HB1.out.size)); clear hb2 m0 m1 m2 h1 h2)
    | (go_at_call 12; rw [← HW0.out]; refine Calls.mono HCk.out ?_; rintro e w1 ⟨rfl, hb1⟩; have m0 := HK0.out.keep hb1; have y0 := m0.cell 0; have y1 := m0.cell 1; have y2 := m0.cell 2; have y3 := m0.cell 3; have y4 := m0.cell 4; have y5 := m0.cell 5; have ly := m0.lt; have HM0 := hide m0; have HM1 := hide (HK1.out.keep hb1); have HM2 := hide (HK2.out.keep hb1); have HB1 := hide (HB0.out.trans (hb1.mono HB0.out.size)); clear hb1 m0))
  obtain ⟨W3, hW3⟩ : ∃ W3, W3 = put6 w2 w.heap.size (.int .i64 d.size) (.slice AE2 d.exts.length cE2) (.slice AW2 d.waits.length cW2) (.int .i64 d.fuse) (.bool d.down) (.int .i64 b) := ⟨_, rfl⟩
  rw [show ((((((w2.setCell ⟨w.heap.size, 0, none⟩ (.int .i64 d.size)).setCell ⟨w.heap.size, 1, none⟩ (.slice AE2 d.exts.length cE2)).setCell ⟨w.heap.size, 2, none⟩ (.slice AW2 d.waits.length cW2)).setCell ⟨w.heap.size, 3, none⟩ (.int .i64 d.fuse)).setCell ⟨w.heap.size, 4, none⟩ (.bool d.down)).setCell ⟨w.heap.size, 5, none⟩ (.int .i64 b)) = W3 from hW3.symm]
  have q0 := put6_bk HN0.out (.int .i64 d.size) (.slice AE2 d.exts.length cE2) (.slice AW2 d.waits.length cW2) (.int .i64 d.fuse) (.bool d.down) (.int .i64 b)
  have q1 := HN1.out.fr (put6_fr w2 w.heap.size (.int .i64 d.size) (.slice AE2 d.exts.length cE2) (.slice AW2 d.waits.length cW2) (.int .i64 d.fuse) (.bool d.down) (.int .i64 b)) (by omega)
  have q2 := HN2.out.fr (put6_fr w2 w.heap.size (.int .i64 d.size) (.slice AE2 d.exts.length cE2) (.slice AW2 d.waits.length cW2) (.int .i64 d.fuse) (.bool d.down) (.int .i64 b)) (by omega)
  have qq := HQ2.out.put6 HN0.out (.int .i64 d.size) (.slice AE2 d.exts.length cE2) (.slice AW2 d.waits.length cW2) (.int .i64 d.fuse) (.bool d.down) (.int .i64 b)
  have qb := put6_below HB2.out (Nat.le_refl _) (.int .i64 d.size) (.slice AE2 d.exts.length cE2) (.slice AW2 d.waits.length cW2) (.int .i64 d.fuse) (.bool d.down) (.int .i64 b)
  rw [← hW3] at q0 q1 q2 qq qb
  have s0 := q1.cell 0
  have s1 := q1.cell 1
  have s2 := q1.cell 2
  have s3 := q1.cell 3
  have s4 := q1.cell 4
  have s5 := q1.cell 5
  have ls := q1.lt
  have HP0 := hide q0
  have HP1 := hide q1
  have HP2 := hide q2
  have HQ := hide qq
  have HB := hide qb
  clear q0 q1 q2 qq qb hW3 HN0 HN1 HN2 HQ2 HB2 x0 x1 x2 x3 x4 x5 fx0 fx1 fx2 fx3 fx4 fx5
  go_upto_region 11 with (first
    | (go_at_call 28; refine Calls.mono (HRt.out _) ?_; rintro e w4 ⟨rfl, hb4⟩; have m1 := HP1.out.keep hb4; have s0 := m1.cell 0; have s1 := m1.cell 1; have s2 := m1.cell 2; have s3 := m1.cell 3; have s4 := m1.cell 4; have s5 := m1.cell 5; have ls := m1.lt; have HP0 := hide (HP0.out.keep hb4); have HP1 := hide m1; have HP2 := hide (HP2.out.keep hb4); have HQ := hide (HQ.out.keep hb4); have HB := hide (HB.out.trans (hb4.mono HB.out.size)); clear hb4 m1)
    | (go_at_call 29; refine Calls.mono (HUs.out _) ?_; rintro e w5 ⟨rfl, hb5⟩; have m0 := HP0.out.keep hb5; have m1 := HP1.out.keep hb5; have x0 := m0.cell 0; have x1 := m0.cell 1; have x2 := m0.cell 2; have x3 := m0.cell 3; have x4 := m0.cell 4; have x5 := m0.cell 5; have s0 := m1.cell 0; have s1 := m1.cell 1; have s2 := m1.cell 2; have s3 := m1.cell 3; have s4 := m1.cell 4; have s5 := m1.cell 5; have ls := m1.lt; have lx := m0.lt; have HP0 := hide m0; have HP1 := hide m1; have HP2 := hide (HP2.out.keep hb5); have HQ := hide (HQ.out.keep hb5); have HB := hide (HB.out.trans (hb5.mono HB.out.size)); clear hb5 m0 m1))
  obtain ⟨W6, hW6⟩ : ∃ W6, W6 = w5.alloc (.cells #[.int .i64 d.size, .slice AE2 d.exts.length cE2, .slice AW2 d.waits.length cW2, .int .i64 d.fuse, .bool d.down] 25) := ⟨_, rfl⟩
  rw [← hW6]
  have hb6 : Below w5.heap.size w5 W6 := by rw [hW6]; exact ba1 _ _
  have k6 : Bk W6 w5.heap.size 25 #[.int .i64 d.size, .slice AE2 d.exts.length cE2, .slice AW2 d.waits.length cW2, .int .i64 d.fuse, .bool d.down] := by rw [hW6]; exact Bk.new _ _ _
  have q0 := HP0.out.keep hb6
  have q1 := HP1.out.keep hb6
  have q2 := HP2.out.keep hb6
  have qq := HQ.out.keep hb6
  have hdv : Dv W6 W6.heap.size (.agg #[.int .i64 d.size, .slice AE2 d.exts.length cE2, .slice AW2 d.waits.length cW2, .int .i64 d.fuse, .bool d.down]) d := by
    obtain ⟨a1, a2, a3, a4, e, h1, h2⟩ := qq.r
    cases e
    exact ⟨_, _, _, _, rfl, h1, h2⟩
  have s0 := q1.cell 0
  have s1 := q1.cell 1
  have s2 := q1.cell 2
  have s3 := q1.cell 3
  have s4 := q1.cell 4
  have s5 := q1.cell 5
  have x0 := q0.cell 0
  have x1 := q0.cell 1
  have x2 := q0.cell 2
  have x3 := q0.cell 3
  have x4 := q0.cell 4
  have x5 := q0.cell 5
  have fx0 := q0.free 0
  have fx1 := q0.free 1
  have fx2 := q0.free 2
  have fx3 := q0.free 3
  have fx4 := q0.free 4
  have fx5 := q0.free 5
  have r0 := q2.cell 0
  have r1 := q2.cell 1
  have r2 := q2.cell 2
  have r3 := q2.cell 3
  have r4 := q2.cell 4
  have r5 := q2.cell 5
  have fr0 := q2.free 0
  have fr1 := q2.free 1
  have fr2 := q2.free 2
  have fr3 := q2.free 3
  have fr4 := q2.free 4
  have fr5 := q2.free 5
  have t0 := k6.cell 0
  have t1 := k6.cell 1
  have t2 := k6.cell 2
  have t3 := k6.cell 3
  have t4 := k6.cell 4
  have l0 := q0.lt
  have l1 := q1.lt
  have l2 := q2.lt
  have l6 := k6.lt
  have HDv := hide hdv
  have HP0 := hide q0
  have HP1 := hide q1
  have HP2 := hide q2
  have HQ := hide qq
  have HB := hide (HB.out.trans (hb6.mono HB.out.size))
  clear q0 q1 q2 qq hdv k6 hb6 hW6
  have HRd := hide (readText_any _ d nm W6 HDv.out HZ.out)
  rw [← hp7] at HRd
  go_upto_region 29 with (go_at_call 31; refine Calls.mono HRd.out ?_; rintro e w7 ⟨rfl, hb7⟩; have q0 := HP0.out.keep hb7; have q2 := HP2.out.keep hb7; have x0 := q0.cell 0; have x1 := q0.cell 1; have x2 := q0.cell 2; have x3 := q0.cell 3; have x4 := q0.cell 4; have x5 := q0.cell 5; have r0 := q2.cell 0; have r1 := q2.cell 1; have r2 := q2.cell 2; have r3 := q2.cell 3; have r4 := q2.cell 4; have r5 := q2.cell 5; have fr0 := q2.free 0; have fr1 := q2.free 1; have fr2 := q2.free 2; have fr3 := q2.free 3; have fr4 := q2.free 4; have fr5 := q2.free 5; have l0 := q0.lt; have l2 := q2.lt; have HE2 := hide q2; have HQ := hide (HQ.out.keep hb7); have HB := hide (HB.out.trans (hb7.mono HB.out.size)); clear q0 q2 hb7)
  go_wp2_with fail
  refine bodyPost_ret (v := .tuple #[.agg #[_, _, _, _, _, _], .string t7, .int .i64 z7]) (res_w3 Tryz.results16 (put6_bk HE2.out _ _ _ _ _ _) rfl rfl rfl) rfl ?_
  exact ⟨⟨_, rfl, HQ.out.put6 HE2.out _ _ _ _ _ _⟩, put6_below HB.out (by omega) _ _ _ _ _ _⟩
end Go.Proofs.YtmbonieeapbpoaaGreatDoor
/- Walks: world.Files; front.told. -/
namespace Go.Proofs.YtmbonieeapbpoaaGreatDoor
open Go.RowKit

set_option maxRecDepth 100000 in
set_option maxHeartbeats 8000000 in
theorem files_any (V : Value) (d : Dsk) (b : Int) (w : World) (hv : WvR w w.heap.size V d b) (hz : SzD d) :
    Calls Tryz.prog 5 #[V] w fun e w' => (∃ L, e = .returned (.tuple #[L, .int .i64 (filesW d b).2]) ∧ w'.ownsRow w.heap.size 9 1 L (filesW d b).1.length ((filesW d b).1.map .string)) ∧ Below w.heap.size w w' := by
  have hck := fun W (h : Below w.heap.size w W) => wcheck_any V d b W ((hv.below h).more h.size) hz
  have hzx := hz.exts
  obtain ⟨AE, cE, AW, cW, rfl, hE, hW⟩ := hv
  obtain ⟨W0, hW0⟩ : ∃ W0, W0 = w.alloc (.cells #[.int .i64 d.size, .slice AE d.exts.length cE, .slice AW d.waits.length cW, .int .i64 d.fuse, .bool d.down, .int .i64 b] 27) := ⟨_, rfl⟩
  have hb0 : Below w.heap.size w W0 := by rw [hW0]; exact ba1 _ _
  have k0 : Bk W0 w.heap.size 27 #[.int .i64 d.size, .slice AE d.exts.length cE, .slice AW d.waits.length cW, .int .i64 d.fuse, .bool d.down, .int .i64 b] := by rw [hW0]; exact Bk.new _ _ _
  have p0 := k0.cell 0
  have p1 := k0.cell 1
  have p2 := k0.cell 2
  have p3 := k0.cell 3
  have p4 := k0.cell 4
  have p5 := k0.cell 5
  have lp := k0.lt
  have hc0 := hck W0 hb0
  obtain ⟨z, hzw⟩ : ∃ z, z = worldE d b := ⟨_, rfl⟩
  rw [← hzw] at hc0
  have HCk := hide hc0
  have HW0 := hide hW0
  have HB0 := hide hb0
  have HK0 := hide k0
  have HE := hide hE
  obtain ⟨i0, hi, hz0, hz1, hz2⟩ := info_parts info_str
  have hzv : z = 0 ∨ z = 2 := by rw [hzw]; unfold worldE; split <;> simp
  have HF := hide (show filesW d b = if z = 0 then (namesD d, 0) else ([], 2) by unfold filesW; rw [← hzw])
  clear hck hW hW0 hb0 k0 hc0 hE hzw
  by_cases h0 : z = 0
  · subst h0
    have HFe := hide (show filesW d b = (namesD d, 0) by rw [HF.out]; rfl)
    clear HF hzv
    go_enter Tryz.func5, Tryz.ntmps5
    go_wp2_with (go_at_call 12; rw [← HW0.out]; refine Calls.mono HCk.out ?_; rintro e w1 ⟨rfl, hb1⟩; have m0 := HK0.out.keep hb1; have q1 := m0.cell 1; have lq := m0.lt; have HB1 := hide (HB0.out.trans (hb1.mono HB0.out.size)); clear hb1 m0)
    have HNo := hide (World.ownsRow_nil w1 w.heap.size 9 1)
    go_loopw [5, 17] (fun ov iv wr => ∃ (k : Nat) (out : List ByteArray), iv = .int .i64 k ∧ k ≤ d.exts.length ∧ Hid (out = ((d.exts.take k).map Ext.nm).filter mayB) ∧ Hid (wr.ownsRow w.heap.size 9 1 ov out.length (out.map .string)) ∧ Hid (Below w.heap.size w wr) ∧ out.length ≤ k) (fun _ iv _ => d.exts.length - (intOf iv).toNat)
    case atStart => exact ⟨0, [], rfl, by omega, hide (by simp), HNo, HB1, by simp⟩
    case round =>
      clear HNo
      obtain ⟨k, out, rfl, hk, hout, hO, hB, hol⟩ := hrel
      obtain ⟨A4, c4, rfl⟩ := own_formk hO.out
      have hzr := hB.out.size
      by_cases hlt : k < d.exts.length
      · obtain ⟨x, hx⟩ : ∃ x, d.exts[k]? = some x := ⟨d.exts[k], by simp [hlt]⟩
        obtain ⟨bb, oo, rfl, hbb, x0, x1⟩ := ext_cells (HE.out.below hB.out) hx
        have hbr : bb < _ := Nat.lt_of_lt_of_le hbb hB.out.size
        have htk : ((d.exts.take (k + 1)).map Ext.nm).filter mayB = out ++ (if mayB x.nm then [x.nm] else []) := by
          rw [List.take_add_one, hx, List.map_append, List.filter_append, ← hout.out]
          simp only [Option.toList_some, List.map_cons, List.map_nil]
          cases h : mayB x.nm <;> simp [List.filter, h]
        obtain ⟨m, hm⟩ : ∃ m, m = mayB x.nm := ⟨_, rfl⟩
        have hma := fun W => May_any x.nm W
        rw [← hm] at hma htk
        have HMa := hide hma
        have HTk := hide htk
        have HO := hO
        have hxl : (0 : Nat) ≤ 0 := Nat.le_refl _
        clear hma htk hm hx hxl
        obtain ⟨W3, hW3⟩ : ∃ W3, W3 = wr.alloc (.cells #[.string x.nm, .string x.dt] 49) := ⟨_, rfl⟩
        have hb3 : Below wr.heap.size wr W3 := by rw [hW3]; exact ba1 _ _
        have k3 : Bk W3 wr.heap.size 49 #[.string x.nm, .string x.dt] := by rw [hW3]; exact Bk.new _ _ _
        obtain ⟨y0, y1⟩ := two_cells k3
        have ly := k3.lt
        have HW3 := hide hW3
        have HK3 := hide k3
        have HB3 := hide (hB.out.trans (hb3.mono hzr))
        have HO3 := hide (own_keep hO.out hb3)
        clear hW3 hb3 k3
        cases m with
        | false =>
          go_wp2_with (go_at_call 17; rw [← HW3.out]; refine Calls.mono (HMa.out _) ?_; rintro e w4 ⟨rfl, hb4⟩; have HO4 := hide (own_keep HO3.out hb4); have HB4 := hide (HB3.out.trans (hb4.mono HB3.out.size)); clear hb4)
          exact ⟨⟨k + 1, out, by simp, by omega, hide (by rw [HTk.out]; simp), HO4, HB4, by omega⟩, by simp [intOf]; omega⟩
        | true =>
          go_wp2_with (first
            | (go_at_call 17; rw [← HW3.out]; refine Calls.mono (HMa.out _) ?_; rintro e w4 ⟨rfl, hb4⟩; have m3 := HK3.out.keep hb4; obtain ⟨u0, u1⟩ := two_cells m3; have lu := m3.lt; have HO4 := hide (own_keep HO3.out hb4); have HB4 := hide (HB3.out.trans (hb4.mono HB3.out.size)); clear hb4 m3)
            | (at_builtin; refine wpList_append_own _ rfl (.tmp 24) (.tmp 27) 28 rfl w.heap.size 9 i0 (.string ⟨#[]⟩) 1 16 Tryz.underlying28 hi hz0 hz1 hz2 rfl (by decide) (.slice A4 out.length c4) out.length _ rfl (HO4.out.alloc _) ⟨_, 0, none⟩ 1 1 [.string x.nm] rfl rfl (cell_one_new _ _ _) (by intro u hu; simp at hu; subst hu; rfl) (by unfold maxLen; omega) (by omega) (by have := HB4.out.size; simp; omega) ?_; intro v5 w5 hown5 hgr5 _; have hb5 : Below w.heap.size w w5 := (HB4.out.alloc HB4.out.size _).grown hgr5 (by have := HB4.out.size; simp; omega) (fun g hg => (HO4.out.lt g hg).1); have HO5 := hide hown5; have HB5 := hide hb5; clear hown5 hgr5 hb5))
          exact ⟨⟨k + 1, out ++ [x.nm], by simp, by omega, hide (by rw [HTk.out]; rfl), hide (by rw [List.map_append, List.length_append]; exact HO5.out), HB5, by simp; omega⟩, by simp [intOf]; omega⟩
      · obtain rfl : k = d.exts.length := by omega
        have hne : out = namesD d := by rw [hout.out, List.take_length]; rfl
        have HNe := hide hne
        clear hne hout
        go_wp2_with fail
        refine bodyPost_ret (v := .tuple #[.slice A4 out.length c4, .int .i64 0]) (by simp [results, Tryz.results5, go_sem]) rfl ?_
        exact ⟨⟨_, by rw [HFe.out], by rw [HFe.out, ← HNe.out]; exact hO.out⟩, hB.out⟩
  · have hz2' : z = 2 := by omega
    subst hz2'
    have HFe := hide (show filesW d b = ([], 2) by rw [HF.out, if_neg (by decide)])
    clear HF hzv h0
    go_enter Tryz.func5, Tryz.ntmps5
    go_wp2_with (go_at_call 12; rw [← HW0.out]; refine Calls.mono HCk.out ?_; rintro e w1 ⟨rfl, hb1⟩; have HB1 := hide (HB0.out.trans (hb1.mono HB0.out.size)); clear hb1)
    refine bodyPost_ret (v := .tuple #[.slice none 0 0, .int .i64 2]) (by simp [results, Tryz.results5, go_sem]) rfl ?_
    exact ⟨⟨_, by rw [HFe.out], by rw [HFe.out]; exact World.ownsRow_nil _ _ _ _⟩, HB1.out⟩
end Go.Proofs.YtmbonieeapbpoaaGreatDoor
