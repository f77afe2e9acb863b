/- Lemmas for the row: WlC, FreeB, WlP, WlQ. -/
import Derived.Test.YtmbonieeapbpoaaGreatDoorM25
set_option linter.unusedVariables false
set_option linter.unusedSimpArgs false
/- Walks of the document's world: Check, Files, Make; Same, SameNames of what is one. Printed by gen_wlc.py. -/
namespace Go.Proofs.YtmbonieeapbpoaaGreatDoor
open Go.RowKit Go.Sort

/-- A world's value, whose rows are read, and lie in slices that have room for them. -/
def WvC (w : World) (B : Nat) (V : Value) (d : Dsk) (b : Int) : Prop := ∃ AE cE AW cW, V = .agg #[.int .i64 d.size, .slice AE d.exts.length cE, .slice AW d.waits.length cW, .int .i64 d.fuse, .bool d.down, .int .i64 b] ∧ Rd w B AE (flatE d.exts) ∧ Rd w B AW (flatW d.waits) ∧ d.exts.length ≤ cE
theorem WvC.r {w : World} {B : Nat} {V : Value} {d : Dsk} {b : Int} (h : WvC w B V d b) : WvR w B V d b := by
  obtain ⟨AE, cE, AW, cW, rfl, h1, h2, _⟩ := h
  exact ⟨AE, cE, AW, cW, rfl, h1, h2⟩
theorem WvC.below {w w' : World} {B : Nat} {V : Value} {d : Dsk} {b : Int} (h : WvC w B V d b) (hb : Below B w w') : WvC w' B V d b := by
  obtain ⟨AE, cE, AW, cW, rfl, h1, h2, h3⟩ := h
  exact ⟨AE, cE, AW, cW, rfl, h1.below hb, h2.below hb, h3⟩
theorem WvC.more {w : World} {B B' : Nat} {V : Value} {d : Dsk} {b : Int} (h : WvC w B V d b) (hB : B ≤ B') : WvC w B' V d b := by
  obtain ⟨AE, cE, AW, cW, rfl, h1, h2, h3⟩ := h
  exact ⟨AE, cE, AW, cW, rfl, h1.more hB, h2.more hB, h3⟩
set_option maxRecDepth 100000 in
set_option maxHeartbeats 4000000 in
theorem rwcheck_any (V : Value) (d : Dsk) (b : Int) (w : World) (hv : WvC w w.heap.size V d b) (hz : SzD d) :
    Calls Tryz.prog 13 #[V] w fun e w' => e = .returned (.int .i64 (worldE d b)) ∧ Below w.heap.size w w' := by
  obtain ⟨AE, cE, AW, cW, rfl, hE, hW, hcE⟩ := hv
  obtain ⟨W0, hW0⟩ : ∃ W0, W0 = w.alloc (.cells #[.int .i64 d.size, .slice AE d.exts.length cE, .slice AW d.waits.length cW, .int .i64 d.fuse, .bool d.down, .int .i64 b] 27) := ⟨_, rfl⟩
  have hb0 : Below w.heap.size w W0 := by rw [hW0]; exact ba1 _ _
  have kp0 : Bk W0 w.heap.size 27 #[.int .i64 d.size, .slice AE d.exts.length cE, .slice AW d.waits.length cW, .int .i64 d.fuse, .bool d.down, .int .i64 b] := by rw [hW0]; exact Bk.new _ _ _
  have hck := rcheck_any AE AW cE cW d W0 ((hE.below hb0).more hb0.size) ((hW.below hb0).more hb0.size) hcE hz
  have p0 := kp0.cell 0
  have p1 := kp0.cell 1
  have p2 := kp0.cell 2
  have p3 := kp0.cell 3
  have p4 := kp0.cell 4
  have lp := kp0.lt
  obtain ⟨c, hc⟩ : ∃ c, c = checkD d := ⟨_, rfl⟩
  have hcc : worldE d b = if c ≠ 0 ∨ b < 24 ∨ 256 < b then 2 else 0 := by
    rw [hc]
    unfold worldE checkD
    by_cases h : checkB d = true
    · rw [if_pos h, h]
      by_cases h1 : b < 24
      · rw [decide_eq_false (show ¬ 24 ≤ b by omega)]; simp [h1]
      · by_cases h2 : 256 < b
        · rw [decide_eq_false (show ¬ b ≤ 256 by omega)]; simp [h2]
        · rw [decide_eq_true (show b ≤ 256 by omega), decide_eq_true (show 24 ≤ b by omega)]; simp [h1, h2]
    · rw [if_neg h]; simp [h]
  rw [← hc] at hck
  have HCk := hide hck
  have HW0 := hide hW0
  have HB0 := hide hb0
  have HKp := hide kp0
  have HCc := hide hcc
  clear hE hW hck hW0 hb0 kp0 hcc hc
  by_cases h1 : c = 0
  · subst h1
    by_cases h2 : b < 24
    · have HRe := hide (show worldE d b = 2 by rw [HCc.out, if_pos (.inr (.inl h2))])
      clear HCc
      go_enter Tryz.func13, Tryz.ntmps13
      go_wp2_with (go_at_call 25; rw [← HW0.out]; refine Calls.mono HCk.out ?_; rintro e w1 ⟨rfl, hb1⟩; have k1 := HKp.out.keep hb1; have q5 := k1.cell 5; have HB1 := hide (HB0.out.trans (hb1.mono HB0.out.size)); clear hb1 k1)
      go_ret
      exact ⟨by rw [HRe.out]; rfl, HB1.out⟩
    · by_cases h3 : 256 < b
      · have HRe := hide (show worldE d b = 2 by rw [HCc.out, if_pos (.inr (.inr h3))])
        clear HCc
        go_enter Tryz.func13, Tryz.ntmps13
        go_wp2_with (go_at_call 25; rw [← HW0.out]; refine Calls.mono HCk.out ?_; rintro e w1 ⟨rfl, hb1⟩; have k1 := HKp.out.keep hb1; have q5 := k1.cell 5; have HB1 := hide (HB0.out.trans (hb1.mono HB0.out.size)); clear hb1 k1)
        go_ret
        exact ⟨by rw [HRe.out]; rfl, HB1.out⟩
      · have HRe := hide (show worldE d b = 0 by rw [HCc.out, if_neg (by omega)])
        clear HCc
        go_enter Tryz.func13, Tryz.ntmps13
        go_wp2_with (go_at_call 25; rw [← HW0.out]; refine Calls.mono HCk.out ?_; rintro e w1 ⟨rfl, hb1⟩; have k1 := HKp.out.keep hb1; have q5 := k1.cell 5; have HB1 := hide (HB0.out.trans (hb1.mono HB0.out.size)); clear hb1 k1)
        go_ret
        exact ⟨by rw [HRe.out]; rfl, HB1.out⟩
  · have HRe := hide (show worldE d b = 2 by rw [HCc.out, if_pos (.inl h1)])
    have h1b : (c != 0) = true := by simpa using h1
    clear HCc
    go_enter Tryz.func13, Tryz.ntmps13
    go_wp2_with (go_at_call 25; rw [← HW0.out]; refine Calls.mono HCk.out ?_; rintro e w1 ⟨rfl, hb1⟩; have k1 := HKp.out.keep hb1; have q5 := k1.cell 5; have HB1 := hide (HB0.out.trans (hb1.mono HB0.out.size)); clear hb1 k1)
    go_ret
    exact ⟨by rw [HRe.out]; rfl, HB1.out⟩
set_option maxRecDepth 100000 in
set_option maxHeartbeats 8000000 in
theorem rfiles_any (V : Value) (d : Dsk) (b : Int) (w : World) (hv : WvC w w.heap.size V d b) (hz : SzD d) :
    Calls Tryz.prog 6 #[V] w fun e w' => (∃ L, e = .returned (.tuple #[L, .int .i64 (filesW d b).2]) ∧ w'.ownsRow w.heap.size 9 1 L (filesW d b).1.length ((filesW d b).1.map .string)) ∧ Below w.heap.size w w' := by
  have hck := fun W (h : Below w.heap.size w W) => rwcheck_any V d b W ((hv.below h).more h.size) hz
  have hzx := hz.exts
  obtain ⟨AE, cE, AW, cW, rfl, hE, hW, hcE⟩ := hv
  obtain ⟨W0, hW0⟩ : ∃ W0, W0 = w.alloc (.cells #[.int .i64 d.size, .slice AE d.exts.length cE, .slice AW d.waits.length cW, .int .i64 d.fuse, .bool d.down, .int .i64 b] 27) := ⟨_, rfl⟩
  have hb0 : Below w.heap.size w W0 := by rw [hW0]; exact ba1 _ _
  have k0 : Bk W0 w.heap.size 27 #[.int .i64 d.size, .slice AE d.exts.length cE, .slice AW d.waits.length cW, .int .i64 d.fuse, .bool d.down, .int .i64 b] := by rw [hW0]; exact Bk.new _ _ _
  have p0 := k0.cell 0
  have p1 := k0.cell 1
  have p2 := k0.cell 2
  have p3 := k0.cell 3
  have p4 := k0.cell 4
  have p5 := k0.cell 5
  have lp := k0.lt
  have hc0 := hck W0 hb0
  obtain ⟨z, hzw⟩ : ∃ z, z = worldE d b := ⟨_, rfl⟩
  rw [← hzw] at hc0
  have HCk := hide hc0
  have HW0 := hide hW0
  have HB0 := hide hb0
  have HK0 := hide k0
  have HE := hide hE
  obtain ⟨i0, hi, hz0, hz1, hz2⟩ := info_parts info_str
  have hzv : z = 0 ∨ z = 2 := by rw [hzw]; unfold worldE; split <;> simp
  have HF := hide (show filesW d b = if z = 0 then (namesD d, 0) else ([], 2) by unfold filesW; rw [← hzw])
  clear hck hW hW0 hb0 k0 hc0 hE hzw
  by_cases h0 : z = 0
  · subst h0
    have HFe := hide (show filesW d b = (namesD d, 0) by rw [HF.out]; rfl)
    clear HF hzv
    go_enter Tryz.func6, Tryz.ntmps6
    go_wp2_with (go_at_call 13; rw [← HW0.out]; refine Calls.mono HCk.out ?_; rintro e w1 ⟨rfl, hb1⟩; have m0 := HK0.out.keep hb1; have q1 := m0.cell 1; have lq := m0.lt; have HB1 := hide (HB0.out.trans (hb1.mono HB0.out.size)); clear hb1 m0)
    have HNo := hide (World.ownsRow_nil w1 w.heap.size 9 1)
    go_loopw [4, 14] (fun ov iv wr => ∃ (k : Nat) (out : List ByteArray), iv = .int .i64 k ∧ k ≤ d.exts.length ∧ Hid (out = ((d.exts.take k).map Ext.nm).filter mayB) ∧ Hid (wr.ownsRow w.heap.size 9 1 ov out.length (out.map .string)) ∧ Hid (Below w.heap.size w wr) ∧ out.length ≤ k) (fun _ iv _ => d.exts.length - (intOf iv).toNat)
    case atStart => exact ⟨0, [], rfl, by omega, hide (by simp), HNo, HB1, by simp⟩
    case round =>
      clear HNo
      obtain ⟨k, out, rfl, hk, hout, hO, hB, hol⟩ := hrel
      obtain ⟨A4, c4, rfl⟩ := own_formk hO.out
      have hzr := hB.out.size
      by_cases hlt : k < d.exts.length
      · obtain ⟨x, hx⟩ : ∃ x, d.exts[k]? = some x := ⟨d.exts[k], by simp [hlt]⟩
        obtain ⟨bb, oo, rfl, hbb, x0, x1⟩ := ext_cells (HE.out.below hB.out) hx
        have hbr : bb < _ := Nat.lt_of_lt_of_le hbb hB.out.size
        have htk : ((d.exts.take (k + 1)).map Ext.nm).filter mayB = out ++ (if mayB x.nm then [x.nm] else []) := by
          rw [List.take_add_one, hx, List.map_append, List.filter_append, ← hout.out]
          simp only [Option.toList_some, List.map_cons, List.map_nil]
          cases h : mayB x.nm <;> simp [List.filter, h]
        obtain ⟨m, hm⟩ : ∃ m, m = mayB x.nm := ⟨_, rfl⟩
        have hma := fun W => rmay_any x.nm W
        rw [← hm] at hma htk
        have HMa := hide hma
        have HTk := hide htk
        have HO := hO
        have hxl : (0 : Nat) ≤ 0 := Nat.le_refl _
        clear hma htk hm hx hxl
        obtain ⟨W3, hW3⟩ : ∃ W3, W3 = wr.alloc (.cells #[.string x.nm, .string x.dt] 49) := ⟨_, rfl⟩
        have hb3 : Below wr.heap.size wr W3 := by rw [hW3]; exact ba1 _ _
        have k3 : Bk W3 wr.heap.size 49 #[.string x.nm, .string x.dt] := by rw [hW3]; exact Bk.new _ _ _
        obtain ⟨y0, y1⟩ := two_cells k3
        have ly := k3.lt
        have HW3 := hide hW3
        have HK3 := hide k3
        have HB3 := hide (hB.out.trans (hb3.mono hzr))
        have HO3 := hide (own_keep hO.out hb3)
        clear hW3 hb3 k3
        cases m with
        | false =>
          go_wp2_with (go_at_call 14; rw [← HW3.out]; refine Calls.mono (HMa.out _) ?_; rintro e w4 ⟨rfl, ew⟩; obtain rfl : W3 = w4 := ew.symm; have hb4 := Below.refl W3.heap.size W3; have HO4 := hide (own_keep HO3.out hb4); have HB4 := hide (HB3.out.trans (hb4.mono HB3.out.size)); clear hb4)
          exact ⟨⟨k + 1, out, by simp, by omega, hide (by rw [HTk.out]; simp), HO4, HB4, by omega⟩, by simp [intOf]; omega⟩
        | true =>
          go_wp2_with (first
            | (go_at_call 14; rw [← HW3.out]; refine Calls.mono (HMa.out _) ?_; rintro e w4 ⟨rfl, ew⟩; obtain rfl : W3 = w4 := ew.symm; have hb4 := Below.refl W3.heap.size W3; have m3 := HK3.out.keep hb4; obtain ⟨u0, u1⟩ := two_cells m3; have lu := m3.lt; have HO4 := hide (own_keep HO3.out hb4); have HB4 := hide (HB3.out.trans (hb4.mono HB3.out.size)); clear hb4 m3)
            | (at_builtin; refine wpList_append_own _ rfl (.tmp 21) (.tmp 24) 28 rfl w.heap.size 9 i0 (.string ⟨#[]⟩) 1 16 Tryz.underlying28 hi hz0 hz1 hz2 rfl (by decide) (.slice A4 out.length c4) out.length _ rfl (HO4.out.alloc _) ⟨_, 0, none⟩ 1 1 [.string x.nm] rfl rfl (cell_one_new _ _ _) (by intro u hu; simp at hu; subst hu; rfl) (by unfold maxLen; omega) (by omega) (by have := HB4.out.size; simp; omega) ?_; intro v5 w5 hown5 hgr5 _; have hb5 : Below w.heap.size w w5 := (HB4.out.alloc HB4.out.size _).grown hgr5 (by have := HB4.out.size; simp; omega) (fun g hg => (HO4.out.lt g hg).1); have HO5 := hide hown5; have HB5 := hide hb5; clear hown5 hgr5 hb5))
          exact ⟨⟨k + 1, out ++ [x.nm], by simp, by omega, hide (by rw [HTk.out]; rfl), hide (by rw [List.map_append, List.length_append]; exact HO5.out), HB5, by simp; omega⟩, by simp [intOf]; omega⟩
      · obtain rfl : k = d.exts.length := by omega
        have hne : out = namesD d := by rw [hout.out, List.take_length]; rfl
        have HNe := hide hne
        clear hne hout
        go_wp2_with fail
        refine bodyPost_ret (v := .tuple #[.slice A4 out.length c4, .int .i64 0]) (by simp [results, Tryz.results6, go_sem]) rfl ?_
        exact ⟨⟨_, by rw [HFe.out], by rw [HFe.out, ← HNe.out]; exact hO.out⟩, hB.out⟩
  · have hz2' : z = 2 := by omega
    subst hz2'
    have HFe := hide (show filesW d b = ([], 2) by rw [HF.out, if_neg (by decide)])
    clear HF hzv h0
    go_enter Tryz.func6, Tryz.ntmps6
    go_wp2_with (go_at_call 13; rw [← HW0.out]; refine Calls.mono HCk.out ?_; rintro e w1 ⟨rfl, hb1⟩; have HB1 := hide (HB0.out.trans (hb1.mono HB0.out.size)); clear hb1)
    refine bodyPost_ret (v := .tuple #[.slice none 0 0, .int .i64 2]) (by simp [results, Tryz.results6, go_sem]) rfl ?_
    exact ⟨⟨_, by rw [HFe.out], by rw [HFe.out]; exact World.ownsRow_nil _ _ _ _⟩, HB1.out⟩
set_option maxRecDepth 100000 in
set_option maxHeartbeats 4000000 in
theorem rwmake_any (size n : Int) (w : World) :
    Calls Tryz.prog 8 #[.int .i64 size, .int .i64 n] w fun e w' => (∃ V, e = .returned (.tuple #[V, .int .i64 (makeW size n).2.2]) ∧ WvQ w' V (makeW size n).1 (makeW size n).2.1) ∧ Below w.heap.size w w' := by
  obtain ⟨W0, hW0⟩ : ∃ W0, W0 = w.alloc (.cells #[.int .i64 0, .slice none 0 0, .slice none 0 0, .int .i64 0, .bool false, .int .i64 0] 27) := ⟨_, rfl⟩
  have hb0 : Below w.heap.size w W0 := by rw [hW0]; exact ba1 _ _
  have kr0 : Bk W0 w.heap.size 27 #[.int .i64 0, .slice none 0 0, .slice none 0 0, .int .i64 0, .bool false, .int .i64 0] := by rw [hW0]; exact Bk.new _ _ _
  have hm := rmake_any size W0
  obtain ⟨dm, zm, hdm⟩ : ∃ dm zm, makeD size = (dm, zm) := ⟨_, _, rfl⟩
  rw [hdm] at hm
  have hbu := fun W => rbudget_any n W
  obtain ⟨B, hB⟩ : ∃ B, B = budgetE n := ⟨_, rfl⟩
  rw [← hB] at hbu
  have hmw : makeW size n = if zm ≠ 0 then (zeroD, 0, zm) else if B ≠ 0 then (zeroD, 0, B) else (dm, n, 0) := by unfold makeW; rw [hdm, ← hB]
  have HM := hide hm
  have HBu := hide hbu
  have HMw := hide hmw
  have HW0 := hide hW0
  have HB0 := hide hb0
  have HR0 := hide kr0
  have hzQ : ∀ W, WvQ W (.agg #[.int .i64 0, .slice none 0 0, .slice none 0 0, .int .i64 0, .bool false, .int .i64 0]) zeroD 0 := fun W => ⟨none, 0, none, 0, rfl, World.ownsRow_nil _ _ _ _, World.ownsRow_nil _ _ _ _⟩
  have HZq := hide hzQ
  clear hm hbu hmw hW0 hb0 kr0 hdm hB hzQ
  go_enter Tryz.func8, Tryz.ntmps8
  go_upto_region 2 with (go_at_call 20; rw [← HW0.out]; refine Calls.mono HM.out ?_; rintro e w1 ⟨⟨v, rfl, hdq⟩, hb1⟩; obtain ⟨AE, cE, AW, cW, rfl, h1, h2⟩ := hdq; have HR1 := hide (HR0.out.keep hb1); have H1 := hide h1; have H2 := hide h2; have HB1 := hide (HB0.out.trans (hb1.mono HB0.out.size)); clear hb1 h1 h2)
  obtain ⟨W2, hW2⟩ : ∃ W2, W2 = w1.alloc (.cells #[.int .i64 dm.size, .slice AE dm.exts.length cE, .slice AW dm.waits.length cW, .int .i64 dm.fuse, .bool dm.down] 25) := ⟨_, rfl⟩
  rw [← hW2]
  have kx : Bk W2 w1.heap.size 25 #[.int .i64 dm.size, .slice AE dm.exts.length cE, .slice AW dm.waits.length cW, .int .i64 dm.fuse, .bool dm.down] := by rw [hW2]; exact Bk.new _ _ _
  have kr2 := HR1.out.keep (show Below w1.heap.size w1 W2 by rw [hW2]; exact ba1 _ _)
  have hb2 : Below w.heap.size w W2 := by rw [hW2]; exact HB1.out.trans ((ba1 _ _).mono HB1.out.size)
  have hq2 : WvQ W2 (.agg #[.int .i64 dm.size, .slice AE dm.exts.length cE, .slice AW dm.waits.length cW, .int .i64 dm.fuse, .bool dm.down, .int .i64 n]) dm n := ⟨AE, cE, AW, cW, rfl, own_keep H1.out (by rw [hW2]; exact ba1 _ _), own_keep H2.out (by rw [hW2]; exact ba1 _ _)⟩
  have y0 := kx.cell 0
  have y1 := kx.cell 1
  have y2 := kx.cell 2
  have y3 := kx.cell 3
  have y4 := kx.cell 4
  have ly := kx.lt
  have z0 := kr2.cell 0
  have z1 := kr2.cell 1
  have z2 := kr2.cell 2
  have z3 := kr2.cell 3
  have z4 := kr2.cell 4
  have z5 := kr2.cell 5
  have g0 := kr2.free 0
  have g1 := kr2.free 1
  have g2 := kr2.free 2
  have g3 := kr2.free 3
  have g4 := kr2.free 4
  have g5 := kr2.free 5
  have lr := kr2.lt
  have HR2 := hide kr2
  have HB2 := hide hb2
  have HQ2 := hide hq2
  clear hW2 kx kr2 hb2 hq2 H1 H2
  by_cases h1 : zm = 0
  · subst h1
    by_cases h2 : B = 0
    · subst h2
      have HRe := hide (show makeW size n = (dm, n, 0) by rw [HMw.out]; rfl)
      clear HMw
      go_wp2_with (go_at_call 21; refine Calls.mono (HBu.out _) ?_; rintro e w3 ⟨rfl, ew⟩; obtain rfl : W2 = w3 := ew.symm)
      refine bodyPost_ret (v := .tuple #[.agg #[_, _, _, _, _, _], .int .i64 0]) (res_w2 Tryz.results8 (put6_bk HR2.out _ _ _ _ _ _) rfl rfl) rfl ?_
      exact ⟨⟨_, by rw [HRe.out], by rw [HRe.out]; exact HQ2.out.put6 HR2.out _ _ _ _ _ _⟩, put6_below HB2.out (Nat.le_refl _) _ _ _ _ _ _⟩
    · have h2b : (B == 0) = false := by simpa using h2
      have HRe := hide (show makeW size n = (zeroD, 0, B) by rw [HMw.out, if_neg (by simp), if_pos h2])
      clear HMw
      go_wp2_with (go_at_call 21; refine Calls.mono (HBu.out _) ?_; rintro e w3 ⟨rfl, ew⟩; obtain rfl : W2 = w3 := ew.symm)
      refine bodyPost_ret (v := .tuple #[.agg #[_, _, _, _, _, _], .int .i64 B]) (res_w2 Tryz.results8 (put6_bk HR2.out _ _ _ _ _ _) rfl rfl) rfl ?_
      exact ⟨⟨_, by rw [HRe.out], by rw [HRe.out]; exact HZq.out _⟩, put6_below HB2.out (Nat.le_refl _) _ _ _ _ _ _⟩
  · have h1b : (zm == 0) = false := by simpa using h1
    have HRe := hide (show makeW size n = (zeroD, 0, zm) by rw [HMw.out, if_pos h1])
    clear HMw
    go_wp2_with fail
    refine bodyPost_ret (v := .tuple #[.agg #[_, _, _, _, _, _], .int .i64 zm]) (res_w2 Tryz.results8 (put6_bk HR2.out _ _ _ _ _ _) rfl rfl) rfl ?_
    exact ⟨⟨_, by rw [HRe.out], by rw [HRe.out]; exact HZq.out _⟩, put6_below HB2.out (Nat.le_refl _) _ _ _ _ _ _⟩
set_option maxRecDepth 100000 in
set_option maxHeartbeats 4000000 in
/-- Two lists of texts that are one. -/
theorem samenames_any (A A' : Option Addr) (c c' : Nat) (xs : List ByteArray) (w : World) (hA : Rd w w.heap.size A (xs.map .string)) (hA' : Rd w w.heap.size A' (xs.map .string)) (hl : xs.length ≤ 1000000000) :
    Calls Tryz.prog 10 #[.slice A xs.length c, .slice A' xs.length c'] w fun e w' => e = .returned (.bool true) ∧ Below w.heap.size w w' := by
  have HA := hide hA
  have HA' := hide hA'
  clear hA hA'
  go_enter Tryz.func10, Tryz.ntmps10
  go_wp2_with fail
  go_loopw [13] (fun iv wr => ∃ k : Nat, iv = .int .i64 k ∧ k ≤ xs.length ∧ Hid (Below w.heap.size w wr)) (fun i _ => xs.length - (intOf i).toNat)
  case atStart => exact ⟨0, rfl, by omega, hide (Below.refl _ _)⟩
  case round =>
    obtain ⟨k, rfl, hk, hB⟩ := hrel
    by_cases hlt : k < xs.length
    · obtain ⟨x, hx⟩ : ∃ x, xs[k]? = some x := ⟨xs[k], by simp [hlt]⟩
      obtain ⟨b, o, rfl, hb, e1⟩ := HA.out.below hB.out k (.string x) (by rw [List.getElem?_map, hx]; rfl)
      obtain ⟨b', o', rfl, hb', e2⟩ := HA'.out.below hB.out k (.string x) (by rw [List.getElem?_map, hx]; rfl)
      have f4 : (x.toList == x.toList) = true := by simp
      clear hx
      go_wp2_with fail
      go_quiet (fail)
      go_wp2_with fail
      exact ⟨⟨k + 1, by simp, by omega, hide (below_dn hB.out)⟩, by simp [intOf]; omega⟩
    · obtain rfl : k = xs.length := by omega
      go_wp2_with fail
      go_ret
      exact ⟨rfl, hB.out⟩
set_option maxRecDepth 100000 in
set_option maxHeartbeats 4000000 in
/-- Two disks that are one, and have no extents, and no writes. -/
theorem rsame0_any (z f : Int) (dn : Bool) (AE AE' AW AW' : Option Addr) (cE cE' cW cW' : Nat) (w : World) :
    Calls Tryz.prog 23 #[.agg #[.int .i64 z, .slice AE 0 cE, .slice AW 0 cW, .int .i64 f, .bool dn], .agg #[.int .i64 z, .slice AE' 0 cE', .slice AW' 0 cW', .int .i64 f, .bool dn]] w fun e w' => e = .returned (.bool true) ∧ Below w.heap.size w w' := by
  obtain ⟨W0, hW0⟩ : ∃ W0, W0 = (w.alloc (.cells #[.int .i64 z, .slice AE 0 cE, .slice AW 0 cW, .int .i64 f, .bool dn] 25)).alloc (.cells #[.int .i64 z, .slice AE' 0 cE', .slice AW' 0 cW', .int .i64 f, .bool dn] 25) := ⟨_, rfl⟩
  have hb0 : Below w.heap.size w W0 := by rw [hW0]; exact ba2 _ _ _
  have k0 : Bk W0 w.heap.size 25 #[.int .i64 z, .slice AE 0 cE, .slice AW 0 cW, .int .i64 f, .bool dn] := by rw [hW0]; exact (Bk.new _ _ _).alloc _
  have k1 : Bk W0 (w.heap.size + 1) 25 #[.int .i64 z, .slice AE' 0 cE', .slice AW' 0 cW', .int .i64 f, .bool dn] := by rw [hW0]; exact Bk.new1 _ _ _ _
  obtain ⟨p0, p1, p2, p3, p4⟩ := five_cells k0
  obtain ⟨q0, q1, q2, q3, q4⟩ := five_cells k1
  have l0 := k0.lt
  have l1 := k1.lt
  have HB0 := hide hb0
  have HW0 := hide hW0
  clear hb0 hW0 k0 k1
  go_enter Tryz.func23, Tryz.ntmps23
  go_upto_region 1 with fail
  rw [← HW0.out]
  go_wp2_with fail
  go_loopw [47] (fun iv wr => iv = .int .i64 0 ∧ wr = W0) (fun _ _ => 0)
  case atStart => exact ⟨rfl, rfl⟩
  case round =>
    obtain ⟨rfl, rfl⟩ := hrel
    go_wp2_with fail
    go_loopw [65] (fun iv wz => iv = .int .i64 0 ∧ wz = wr) (fun _ _ => 0)
    case atStart => exact ⟨rfl, rfl⟩
    case round =>
      obtain ⟨rfl, rfl⟩ := hrel
      go_wp2_with fail
      go_ret
      exact ⟨rfl, HB0.out⟩
set_option maxRecDepth 100000 in
set_option maxHeartbeats 4000000 in
theorem rwsame0_any (z f n : Int) (dn : Bool) (AE AE' AW AW' : Option Addr) (cE cE' cW cW' : Nat) (w : World) :
    Calls Tryz.prog 11 #[.agg #[.int .i64 z, .slice AE 0 cE, .slice AW 0 cW, .int .i64 f, .bool dn, .int .i64 n], .agg #[.int .i64 z, .slice AE' 0 cE', .slice AW' 0 cW', .int .i64 f, .bool dn, .int .i64 n]] w fun e w' => e = .returned (.bool true) ∧ Below w.heap.size w w' := by
  have hs := fun W => rsame0_any z f dn AE AE' AW AW' cE cE' cW cW' W
  have HS := hide hs
  clear hs
  go_enter Tryz.func11, Tryz.ntmps11
  go_wp2_with (go_at_call 23; refine Calls.mono (HS.out _) ?_; rintro e w1 ⟨rfl, hb1⟩; have HB1 := hide hb1; clear hb1)
  go_ret
  exact ⟨rfl, btrans (ba2 _ _ _) HB1.out⟩
end Go.Proofs.YtmbonieeapbpoaaGreatDoor
/- Walk: slices.Delete of one extent that has another one behind it. -/
namespace Go.Proofs.YtmbonieeapbpoaaGreatDoor
open Go.RowKit Go.Sort

/-- clear of a slice of one element of two cells. -/
theorem run_clear_two (w : World) (ty : TypeId) (b o c : Nat) (h0 : (w.cell? ⟨b, o, none⟩).isSome = true) (h1 : (w.cell? ⟨b, o + 1, none⟩).isSome = true) (f0 : w.frozen? ⟨b, o, none⟩ = false) (f1 : w.frozen? ⟨b, o + 1, none⟩ = false) :
    (Builtin.clear_ #[22] ty #[.slice (some ⟨b, o, none⟩) 1 c]).run Tryz.prog w = .ok (.tuple #[]) (w.setCells b o [.string ⟨#[]⟩, .string ⟨#[]⟩]) := by
  have hz : (zeroValue 49).run Tryz.prog w = .ok (.agg #[.string ⟨#[]⟩, .string ⟨#[]⟩]) w := by kernel_rfl
  have hc : (Value.agg #[.string ⟨#[]⟩, .string ⟨#[]⟩]).cells = #[.string ⟨#[]⟩, .string ⟨#[]⟩] := by rfl
  have hzc : (Builtin.zeroCells #[Value.string ⟨#[]⟩, .string ⟨#[]⟩] 1).toList = [.string ⟨#[]⟩, .string ⟨#[]⟩] := by kernel_rfl
  have hst := run_storeCells_cells (P := Tryz.prog) b o [.string ⟨#[]⟩, .string ⟨#[]⟩] 0 w (by intro j hj; match j, hj with | 0, _ => simpa using h0 | 1, _ => simpa using h1) (by intro j hj; match j, hj with | 0, _ => simpa using f0 | 1, _ => simpa using f1) (by intro v hv; simp at hv; subst hv; rfl)
  simp only [Nat.add_zero] at hst
  simp [Builtin.clear_, run_underlying Tryz.underlying22, hz, hc, hzc, hst]
set_option maxRecDepth 100000 in
set_option maxHeartbeats 4000000 in
theorem del_any (g i r c : Nat) (l : List Ext) (w : World) (ho : w.ownsRow 0 49 2 (.slice (some ⟨g, 0, none⟩) l.length c) l.length (flatE l)) (hl : l.length ≤ 1000000) (hn : l.length = i + 1 + (r + 1)) :
    Calls Tryz.prog 82 #[.slice (some ⟨g, 0, none⟩) l.length c, .int .i64 i, .int .i64 (i + 1 : Nat)] w fun e w' => e = .returned (.slice (some ⟨g, 0, none⟩) (delE l i).length c) ∧ w'.ownsRow 0 49 2 (.slice (some ⟨g, 0, none⟩) (delE l i).length c) (delE l i).length (flatE (delE l i)) ∧ Fr (fun k => k = g) w w' := by
  have hrd := own_rdk ho
  have hcap : l.length ≤ c ∧ c ≤ maxLen := by
    rcases ho.2 with ⟨hv, h0⟩ | ⟨g', cap, cur, hv, hb, hg, hnc, hcm, hcs, ht⟩
    · simp at hv
    · simp only [Value.slice.injEq, Option.some.injEq, Addr.mk.injEq, true_and, and_true] at hv
      obtain ⟨rfl, rfl⟩ := hv
      exact ⟨hnc, hcm⟩
  have hdl : (delE l i).length = i + (r + 1) := by unfold delE; rw [List.length_append, List.length_take, List.length_drop]; omega
  have hod := own_del (w := w.drew) (e0 := ⟨#[]⟩) ho rfl (show i < l.length by omega)
  have hn1 : l.length - (i + 1) = r + 1 := by omega
  have s4 : ∀ j u, (flatE (l.drop (i + 1)))[j]? = some u → w.drew.cell? ((⟨g, (i + 1) * 2, none⟩ : Addr).add j) = some u := fun j u hj => by
    have hap : flatE l = flatE (l.take (i + 1)) ++ flatE (l.drop (i + 1)) := by rw [← flatE_app, List.take_append_drop]
    have hlt : (flatE (l.take (i + 1))).length = (i + 1) * 2 := by rw [flatE_length, List.length_take]; omega
    have hj2 : (flatE l)[(i + 1) * 2 + j]? = some u := by rw [hap, List.getElem?_append_right (by omega), hlt, Nat.add_sub_cancel_left]; exact hj
    obtain ⟨b, o, e, hb, hc⟩ := hrd _ _ hj2
    cases e
    rw [Addr.add_lit]
    rw [Nat.zero_add] at hc
    exact hc
  have s1 : (flatE (l.drop (i + 1))).length = (r + 1) * 2 := by rw [flatE_length, List.length_drop]; omega
  have hall : ∀ o, o < l.length * 2 → (w.cell? ⟨g, o, none⟩).isSome = true := fun o ho2 => by
    obtain ⟨u, hu⟩ : ∃ u, (flatE l)[o]? = some u := ⟨(flatE l)[o]'(by rw [flatE_length]; omega), List.getElem?_eq_getElem (by rw [flatE_length]; omega)⟩
    obtain ⟨b, o', e, hb, hc⟩ := hrd _ _ hu
    cases e
    rw [Nat.zero_add] at hc
    rw [hc]; rfl
  have hfz : ∀ o, w.frozen? ⟨g, o, none⟩ = false := fun o => own_free (i := o) ho
  obtain ⟨news, hnews⟩ : ∃ news, news = flatE (l.drop (i + 1)) := ⟨_, rfl⟩
  rw [← hnews] at s1 s4
  have s3 : ∀ t, t < news.length → (w.drew.cell? ⟨g, 0 + i * 2 + t, none⟩).isSome = true ∧ w.drew.frozen? ⟨g, 0 + i * 2 + t, none⟩ = false := fun t ht => ⟨hall _ (by omega), hfz _⟩
  have s2 : ∀ u ∈ news, u.oneCell' = true := by rw [hnews]; exact flatE_one
  obtain ⟨p, hp⟩ : ∃ p, p = i + (r + 1) := ⟨_, rfl⟩
  obtain ⟨n, hnn⟩ : ∃ n, n = l.length := ⟨_, rfl⟩
  obtain ⟨W1, hW1⟩ : ∃ W1, W1 = w.drew.setCells g (0 + i * 2) news := ⟨_, rfl⟩
  obtain ⟨W2, hW2⟩ : ∃ W2, W2 = W1.setCells g (p * 2) [.string ⟨#[]⟩, .string ⟨#[]⟩] := ⟨_, rfl⟩
  have hfr1 : Fr (fun k => k = g) w W1 := by rw [hW1]; exact ((Fr.refl (fun k => k = g) w).drew).trans (fr_putk g news _ _) (fun _ h => .inl h)
  have hfr2 : Fr (fun k => k = g) w W2 := by rw [hW2]; exact hfr1.trans (fr_putk g _ _ _) (fun _ h => .inl h)
  have hcur : ∃ cur, Bk W1 g 49 cur ∧ cur.size = c * 2 := by
    rcases ho.2 with ⟨hv, h0⟩ | ⟨g', cap, cur, hv, hb, hg, hnc, hcm, hcs, ht⟩
    · simp at hv
    · simp only [Value.slice.injEq, Option.some.injEq, Addr.mk.injEq, true_and, and_true] at hv
      obtain ⟨rfl, rfl⟩ := hv
      obtain ⟨xs⟩ := cur
      have hxl : xs.length = c * 2 := hcs
      have k1 := Bk.putk news (0 + i * 2) (w := w.drew) (show Bk w.drew g _ xs.toArray from hg) (by rw [s1, hxl]; omega)
      rw [← hW1] at k1
      refine ⟨_, k1, ?_⟩
      rw [List.size_toArray, List.length_append, List.length_append, List.length_take, List.length_drop, s1, hxl]
      omega
  obtain ⟨cur, hk1, hcs⟩ := hcur
  have hsome : ∀ o, o < c * 2 → (W1.cell? ⟨g, o, none⟩).isSome = true := fun o ho2 => by
    rw [hk1.cell o, Array.getElem?_eq_getElem (by omega)]; rfl
  have hcl : ∀ ty, (Builtin.clear_ #[22] ty #[.slice (some ⟨g, p * 2, none⟩) 1 (c - p)]).run Tryz.prog W1 = .ok (.tuple #[]) W2 := fun ty => by
    rw [hW2]
    exact run_clear_two W1 ty g (p * 2) (c - p) (hsome _ (by omega)) (hsome _ (by omega)) (hk1.free _) (hk1.free _)
  have hrow : W2.ownsRow 0 49 2 (.slice (some ⟨g, 0, none⟩) p c) p (flatE (delE l i)) := by
    have := hod
    rw [show l.length - 1 = p by omega, ← hnews] at this
    rw [hW2, hW1, Nat.zero_add]
    exact this
  obtain ⟨i0, hi0, hz0, hz1, hz2⟩ := info_parts info_ext
  have HRow := hide hrow
  have HFr := hide hfr2
  have HW1 := hide hW1
  have HDl := hide hdl
  have hnp : n = p + 1 := by omega
  have hcb : c ≤ 9223372036854775807 := by have := hcap.2; unfold maxLen at this; omega
  have a1 : n ≤ c := by omega
  have a2 : i + 1 ≤ n := by omega
  have a3 : i ≤ c := by omega
  have a4 : i + 1 ≤ c := by omega
  have a5 : ¬ (c = i) := by omega
  have a6 : ¬ (c = i + 1) := by omega
  have a7 : ¬ (n = i) := by omega
  have a8 : ¬ (c = p) := by omega
  have a9 : p ≤ c := by omega
  have a10 : n - (i + 1) = r + 1 := by omega
  have a11 : n - p = 1 := by omega
  have a12 : p ≤ n := by omega
  have a13 : (0 : Int) ≤ (i : Int) + 1 := by omega
  have a14 : (i : Int) + 1 ≤ (n : Int) := by omega
  have a15 : i ≤ n := by omega
  have a16 : ((i : Int) + 1).toNat = i + 1 := by omega
  have HNp := hide hnp
  clear hnp
  have s1' := hide s1
  have s2' := hide s2
  have s3' := hide s3
  have s4' := hide s4
  have HP := hide hp
  rw [← hnn]
  clear hod hrd ho hrow hfr1 hfr2 hW1 hW2 hsome hk1 hcs hall hfz hdl hnews hnn hn hn1 s1 s2 s3 s4 hp hl
  go_enter Tryz.func82, Tryz.ntmps82
  go_wp2_with fail
  go_region_law (refine step_append_room rfl (.tmp 22) (.tmp 25) 22 rfl 49 i0 2 Tryz.underlying22 hi0 hz1 g 0 i c (by simp [Act.eval, Act.put]) ⟨g, (i + 1) * 2, none⟩ (r + 1) (c - (i + 1)) news (by simp [Act.eval, Act.put]) s1'.out s4'.out s2'.out (by omega) s3'.out ?_; rw [← HW1.out, ← HP.out])
  go_wp2
  go_ret
  exact ⟨by rw [HDl.out, ← HP.out]; rfl, by rw [HDl.out, ← HP.out]; exact HRow.out, HFr.out⟩
end Go.Proofs.YtmbonieeapbpoaaGreatDoor
/- What lives29's steps come to, plainly; a world behind a crash. -/
namespace Go.Proofs.YtmbonieeapbpoaaGreatDoor
open Go.RowKit

/-- lives29's worlds, one behind the other. -/
def l9D0 : Dsk := ⟨900, [], [], -1, false⟩
def l9D1 : Dsk := (putD l9D0 ⟨#[98]⟩ 0 3 ⟨#[120, 121, 120]⟩).1
def l9D2 : Dsk := (putD l9D1 ⟨#[97]⟩ 0 1 ⟨#[120]⟩).1
def l9D3 : Dsk := (freeD l9D2 ⟨#[97]⟩).1
def l9D4 : Dsk := (putD l9D3 ⟨#[99]⟩ 0 1 ⟨#[122]⟩).1
theorem l9_make : makeW 900 24 = (l9D0, 24, 0) := by decide +kernel
theorem l9_put1 : putD l9D0 ⟨#[98]⟩ 0 3 ⟨#[120, 121, 120]⟩ = (l9D1, 0) := by
  have : (putD l9D0 ⟨#[98]⟩ 0 3 ⟨#[120, 121, 120]⟩).2 = 0 := by decide +kernel
  exact Prod.ext rfl this
theorem l9_put2 : putD l9D1 ⟨#[97]⟩ 0 1 ⟨#[120]⟩ = (l9D2, 0) := by
  have : (putD l9D1 ⟨#[97]⟩ 0 1 ⟨#[120]⟩).2 = 0 := by decide +kernel
  exact Prod.ext rfl this
theorem l9_free : freeD l9D2 ⟨#[97]⟩ = (l9D3, 0) := by
  have : (freeD l9D2 ⟨#[97]⟩).2 = 0 := by decide +kernel
  exact Prod.ext rfl this
theorem l9_put3 : putD l9D3 ⟨#[99]⟩ 0 1 ⟨#[122]⟩ = (l9D4, 0) := by
  have : (putD l9D3 ⟨#[99]⟩ 0 1 ⟨#[122]⟩).2 = 0 := by decide +kernel
  exact Prod.ext rfl this
theorem l9_get : (bodyD l9D4 ⟨#[98]⟩ true).2 = (⟨#[120, 121, 120]⟩, 0) := by decide +kernel
theorem l9_w0 : worldE l9D0 24 = 0 := by decide +kernel
theorem l9_w1 : worldE l9D1 24 = 0 := by decide +kernel
theorem l9_w2 : worldE l9D2 24 = 0 := by decide +kernel
theorem l9_w3 : worldE l9D3 24 = 0 := by decide +kernel
theorem l9_w4 : worldE l9D4 24 = 0 := by decide +kernel
theorem l9_w5 : worldE l9D4 30 = 0 := by decide +kernel
theorem l9_waits : l9D2.waits = [] := by decide +kernel
theorem l9_files : filesW l9D4 24 = ([⟨#[98]⟩, ⟨#[99]⟩], 0) := by decide +kernel
theorem l9_may1 : mayB ⟨#[98]⟩ = true := by decide +kernel
theorem l9_may2 : mayB ⟨#[97]⟩ = true := by decide +kernel
theorem l9_may3 : mayB ⟨#[99]⟩ = true := by decide +kernel
theorem l9_mayno : mayB ⟨#[61, 109]⟩ = false := by decide +kernel
theorem l9_no : makeW 1 23 = (zeroD, 0, 9) := by decide +kernel
theorem l9_sz0 : SzD l9D0 := ⟨by decide, by decide, by decide, by decide, by decide⟩
theorem l9_sz1 : SzD l9D1 := ⟨by decide +kernel, by decide +kernel, by decide +kernel, by decide +kernel, by decide +kernel⟩
theorem l9_sz2 : SzD l9D2 := ⟨by decide +kernel, by decide +kernel, by decide +kernel, by decide +kernel, by decide +kernel⟩
theorem l9_sz3 : SzD l9D3 := ⟨by decide +kernel, by decide +kernel, by decide +kernel, by decide +kernel, by decide +kernel⟩
theorem l9_sz4 : SzD l9D4 := ⟨by decide +kernel, by decide +kernel, by decide +kernel, by decide +kernel, by decide +kernel⟩
/-- A disk behind a crash: what a list of Bools keeps is done. -/
def crashD (keep : List Bool) (d : Dsk) : Dsk := { settleD (fun i => keep.getD i false) d with fuse := -1, down := false }
theorem crash_names (keep : List Bool) (d : Dsk) : (crashD keep d).exts.map Ext.nm = d.exts.map Ext.nm := by
  show (d.exts.map (settleE _ 0 d.waits)).map Ext.nm = _
  rw [List.map_map]
  exact List.map_congr_left fun x _ => settleE_nm _ _ _ x
theorem crash_namesD (keep : List Bool) (d : Dsk) : namesD (crashD keep d) = namesD d := by
  unfold namesD
  rw [crash_names]
theorem crash_right {d : Dsk} (h : Right d) (keep : List Bool) : Right (crashD keep d) := by
  have r := settleD_right h (fun i => keep.getD i false)
  exact ⟨r.size0, r.size1, r.nwaits, by show (-1 : Int) ≤ -1; decide, r.exts, r.rise, r.used, r.waits⟩
end Go.Proofs.YtmbonieeapbpoaaGreatDoor
/- A world's files, plainly: they rise, each may be told, each is an extent's name. -/
namespace Go.Proofs.YtmbonieeapbpoaaGreatDoor
open Go.RowKit

theorem rise_map : ∀ {l : List Ext}, Rise l → (l.map Ext.nm).Pairwise (fun a b => sless a b = true)
  | [], _ => List.Pairwise.nil
  | x :: r, h => by
    rw [List.map_cons]
    refine List.pairwise_cons.2 ⟨fun b hb => ?_, rise_map h.2⟩
    obtain ⟨y, hy, rfl⟩ := List.mem_map.1 hb
    exact h.1 y hy
theorem files_next {d : Dsk} (h : Right d) {i : Nat} {x y : ByteArray} (hx : (namesD d)[i]? = some x) (hy : (namesD d)[i + 1]? = some y) : sless x y = true := by
  have hp : (namesD d).Pairwise (fun a b => sless a b = true) := (rise_map h.rise).filter _
  obtain ⟨h1, rfl⟩ := List.getElem?_eq_some_iff.1 hx
  obtain ⟨h2, rfl⟩ := List.getElem?_eq_some_iff.1 hy
  exact List.pairwise_iff_getElem.1 hp i (i + 1) h1 h2 (Nat.lt_succ_self i)
theorem files_in {d : Dsk} {i : Nat} {s : ByteArray} (h : (namesD d)[i]? = some s) : mayB s = true ∧ ∃ x ∈ d.exts, x.nm = s := by
  have hm := List.mem_of_getElem? h
  unfold namesD at hm
  obtain ⟨h1, h2⟩ := List.mem_filter.1 hm
  obtain ⟨x, hx, e⟩ := List.mem_map.1 h1
  exact ⟨h2, x, hx, e⟩
theorem find_in {l : List Ext} {s : ByteArray} (h : ∃ x ∈ l, x.nm = s) : ∃ k : Nat, idxI (fun x : Ext => decide (x.nm = s)) l = (k : Nat) := by
  unfold idxI
  obtain ⟨x, hx, e⟩ := h
  cases hf : l.findIdx? (fun x : Ext => decide (x.nm = s)) with
  | some i => exact ⟨i, rfl⟩
  | none =>
    have := List.findIdx?_eq_none_iff.1 hf x hx
    simp [e] at this
end Go.Proofs.YtmbonieeapbpoaaGreatDoor
