/- Lemmas for the row: DskK, DskR. -/
import Derived.Test.YtmopegpkoedgbaaGreatDoorM05
import Derived.Lib.QuietBelow
set_option linter.unusedVariables false
set_option linter.unusedSimpArgs false
/- Walks: disk.Check, disk.Open. -/
namespace Go.Proofs.YtmopegpkoedgbaaGreatDoor
open Go.RowKit Go.Sort

theorem check_no {d : Dsk} (h : checkB d = false) : checkD d = 2 := by unfold checkD; rw [h]; rfl
theorem check_ok {d : Dsk} (h : checkB d = true) : checkD d = 0 := by unfold checkD; rw [h]; rfl
theorem waits_step {l : List Ext} {ws : List Wt} {k : Nat} {y : Wt} (h : ∀ j z, j < k → ws[j]? = some z → waitOK l z = true) (hy : ws[k]? = some y) (hp : waitOK l y = true) : ∀ j z, j < k + 1 → ws[j]? = some z → waitOK l z = true := fun j z hj hz => by
  rcases Nat.lt_or_ge j k with g | g
  · exact h j z g hz
  · obtain rfl : j = k := by omega
    rw [hy] at hz
    obtain rfl := Option.some.inj hz
    exact hp
theorem waits_all {l : List Ext} {ws : List Wt} (h : ∀ j z, j < ws.length → ws[j]? = some z → waitOK l z = true) : ws.all (waitOK l) = true := List.all_eq_true.2 fun x hx => by
  obtain ⟨j, hj⟩ := List.mem_iff_getElem?.1 hx
  exact h j x (List.getElem?_eq_some_iff.1 hj).1 hj
theorem waits_not {l : List Ext} {ws : List Wt} {k : Nat} {y : Wt} (hy : ws[k]? = some y) (hp : waitOK l y = false) : ws.all (waitOK l) = false := by
  cases h : ws.all (waitOK l) with
  | false => rfl
  | true => rw [List.all_eq_true.1 h y (List.mem_of_getElem? hy)] at hp; cases hp
theorem cells3 {w : World} {g : Nat} {t : TypeId} {a b c : Value} (h : Bk w g t #[a, b, c]) : w.cell? ⟨g, 0, none⟩ = some a ∧ w.cell? ⟨g, 1, none⟩ = some b ∧ w.cell? ⟨g, 2, none⟩ = some c := ⟨h.cell 0, h.cell 1, h.cell 2⟩
theorem findIs_at {l : List Ext} {s : ByteArray} (h : findIs l s = true) : ∃ x, l[findI l s]? = some x ∧ x.nm = s := by
  unfold findIs at h
  cases hx : l[findI l s]? with
  | none => rw [hx] at h; cases h
  | some x => rw [hx] at h; exact ⟨x, rfl, of_decide_eq_true h⟩
theorem waitOK_is {l : List Ext} {y : Wt} (h : findIs l y.nm = false) : waitOK l y = false := by
  unfold findIs at h
  unfold waitOK
  cases hx : l[findI l y.nm]? with
  | none => rfl
  | some x => rw [hx] at h; have : ¬ x.nm = y.nm := of_decide_eq_false h
              simp [this]
theorem waitOK_at {l : List Ext} {y : Wt} {x : Ext} (hx : l[findI l y.nm]? = some x) (e : x.nm = y.nm) : waitOK l y = (decide (0 ≤ y.sec) && decide (y.sec < (secsE x : Nat)) && decide (y.dt.size = 64)) := by
  unfold waitOK; rw [hx]; simp [e]
set_option maxRecDepth 100000 in
set_option maxHeartbeats 4000000 in
theorem check_disk (v : Value) (d : Dsk) (w : World) (hv : Dv w w.heap.size v d) (h1 : d.exts.length ≤ 1000000000) (h2 : d.waits.length ≤ 1000000000) (h3 : ∀ x ∈ d.exts, x.dt.size ≤ 1000000000) (h4 : ∀ x ∈ d.waits, x.dt.size ≤ 1000000000) :
    Calls Tryz.prog 114 #[v] w fun e w' => e = .returned (.int .i64 (checkD d)) ∧ Below w.heap.size w w' := by
  obtain ⟨AE, cE, AW, cW, rfl, hE, hW⟩ := hv
  by_cases a1 : d.size < 0
  · have hb : checkB d = false := by unfold checkB; have : ¬ 0 ≤ d.size := by omega
                                     simp [this]
    rw [check_no hb]
    clear hb h3 h4 hE hW
    go_enter Tryz.func114, Tryz.ntmps114
    go_wp2_with fail
    go_ret
    exact ⟨rfl, ba1 _ _⟩
  by_cases a2 : 16384 < d.size
  · have hb : checkB d = false := by unfold checkB; have : ¬ d.size ≤ 16384 := by omega
                                     simp [this]
    rw [check_no hb]
    clear hb h3 h4 hE hW
    go_enter Tryz.func114, Tryz.ntmps114
    go_wp2_with fail
    go_ret
    exact ⟨rfl, ba1 _ _⟩
  by_cases a3 : (16384 : Int) < (d.waits.length : Int)
  · have hb : checkB d = false := by unfold checkB; have : ¬ d.waits.length ≤ 16384 := by omega
                                     simp [this]
    rw [check_no hb]
    clear hb h3 h4 hE hW
    go_enter Tryz.func114, Tryz.ntmps114
    go_wp2_with fail
    go_ret
    exact ⟨rfl, ba1 _ _⟩
  by_cases a4 : d.fuse < -1
  · have hb : checkB d = false := by unfold checkB; have : ¬ -1 ≤ d.fuse := by omega
                                     simp [this]
    rw [check_no hb]
    clear hb h3 h4 hE hW
    go_enter Tryz.func114, Tryz.ntmps114
    go_wp2_with fail
    go_ret
    exact ⟨rfl, ba1 _ _⟩
  have cx := fun (W : World) (h : Below w.heap.size w W) => extents_any AE cE d.exts d.size W ((hE.below h).more h.size) h1 h3 (by omega) (by omega)
  obtain ⟨t, ht⟩ : ∃ t, t = extsOK ⟨#[]⟩ d.size d.exts := ⟨_, rfl⟩
  rw [← ht] at cx
  have HCX := hide cx
  clear cx
  cases t with
  | false =>
    have hb : checkB d = false := by unfold checkB; rw [← ht]; simp
    rw [check_no hb]
    clear hb h3 h4 hE hW ht
    go_enter Tryz.func114, Tryz.ntmps114
    go_wp2_with (go_at_call 156; refine Calls.mono (HCX.out _ (ba1 _ _)) ?_; rintro e w1 ⟨rfl, hb1⟩; have HB1 := hide hb1; clear hb1)
    go_ret
    exact ⟨rfl, btrans (ba1 _ _) HB1.out⟩
  | true =>
    have hb : checkB d = d.waits.all (waitOK d.exts) := by
      unfold checkB; rw [← ht]
      have g1 : 0 ≤ d.size := by omega
      have g2 : d.size ≤ 16384 := by omega
      have g3 : d.waits.length ≤ 16384 := by omega
      have g4 : -1 ≤ d.fuse := by omega
      simp [g1, g2, g3, g4]
    have HBc := hide hb
    obtain ⟨wB, hwB⟩ : ∃ wB, wB = w.alloc (.cells #[.int .i64 d.size, .slice AE d.exts.length cE, .slice AW d.waits.length cW, .int .i64 d.fuse, .bool d.down] 25) := ⟨_, rfl⟩
    have hbB : Below w.heap.size w wB := by rw [hwB]; exact ba1 _ _
    have hkB : Bk wB w.heap.size 25 #[.int .i64 d.size, .slice AE d.exts.length cE, .slice AW d.waits.length cW, .int .i64 d.fuse, .bool d.down] := by rw [hwB]; exact Bk.new _ _ _
    have cf := fun (s : ByteArray) (W : World) (h : Below w.heap.size w W) => find_any AE cE d.exts s W ((hE.below h).more h.size) h1
    have HCF := hide cf
    have hs := fun (x : Ext) (W : World) (h : x.dt.size ≤ 1000000000) => sectors_any x W (by omega)
    have HS := hide hs
    have HE := hide hE
    have HW := hide hW
    have H3 := hide h3
    have H4 := hide h4
    have HbB := hide hbB
    have HkB := hide hkB
    clear hE hW h3 h4 ht cf hs hb hbB
    go_enter Tryz.func114, Tryz.ntmps114
    go_wp2_with (go_at_call 156; rw [← hwB]; refine Calls.mono (HCX.out _ HbB.out) ?_; rintro e w1 ⟨rfl, hb1⟩; have hk1 := hkB.keep hb1; obtain ⟨c0, c1, c2, c3, c4⟩ := five_cells hk1; have HB1 := hide hb1; clear hb1 hk1 hkB hwB)
    go_loopw [37] (fun i wr => ∃ k : Nat, i = .int .i64 k ∧ k ≤ d.waits.length ∧ Hid (∀ j z, j < k → d.waits[j]? = some z → waitOK d.exts z = true) ∧ Hid (Below wB.heap.size wB wr)) (fun i _ => d.waits.length - (intOf i).toNat)
    case atStart => exact ⟨0, rfl, by omega, hide (fun j z hj => by omega), HB1⟩
    case round =>
      obtain ⟨k, rfl, hk, hinv, hbe⟩ := hrel
      have hbw : Below w.heap.size w wr := btrans HbB.out hbe.out
      have hkr := HkB.out.keep hbe.out
      have hzl := hkr.lt
      clear c0 c1 c2 c3 c4
      obtain ⟨c0, c1, c2, c3, c4⟩ := five_cells hkr
      by_cases hlt : k < d.waits.length
      · obtain ⟨y, hy⟩ : ∃ y, d.waits[k]? = some y := ⟨d.waits[k], List.getElem?_eq_getElem hlt⟩
        obtain ⟨b, o, rfl, hb, e1, e2, e3⟩ := wt_cells HW.out hy
        have x1 : wr.cell? ⟨b, o + k * 3, none⟩ = some (.string y.nm) := (hbw.cell (p := ⟨b, o + k * 3, none⟩) hb).trans e1
        have x2 : wr.cell? ⟨b, o + k * 3 + 1, none⟩ = some (.int .i64 y.sec) := (hbw.cell (p := ⟨b, o + k * 3 + 1, none⟩) hb).trans e2
        have x3 : wr.cell? ⟨b, o + k * 3 + 2, none⟩ = some (.string y.dt) := (hbw.cell (p := ⟨b, o + k * 3 + 2, none⟩) hb).trans e3
        clear e1 e2 e3
        have HY := hide hy
        clear hy
        have hyd := H4.out y (List.mem_of_getElem? HY.out)
        have hfa := HCF.out y.nm
        have hfa := fun W h => HCF.out y.nm W h
        obtain ⟨fs, hfs⟩ : ∃ fs, fs = findIs d.exts y.nm := ⟨_, rfl⟩
        rw [← hfs] at hfa
        have HFA := hide hfa
        clear hfa
        cases fs with
        | false =>
          have HWK := hide (waitOK_is hfs.symm)
          clear hfs
          go_wp2_with (go_at_call 149; refine Calls.mono (HFA.out _ (btrans hbw (ba1 _ _))) ?_; rintro e w2 ⟨rfl, hb2⟩; have hy2 := (Bk.new wr _ _).keep hb2; have hk2 := (hkr.alloc _).keep hb2; obtain ⟨y0, y1, y2⟩ := cells3 hy2; obtain ⟨b0, b1, b2, b3, b4⟩ := five_cells hk2; have HB2 := hide (btrans (ba1 wr _) hb2); clear hy2 hk2 hb2 hkr x1 x2 x3 c0 c1 c2 c3 c4)
          have hmx : Tryz.prog.follows .mixedOrders = true := by kernel_rfl
          have k0 := cell_regrown y0
          have k1 := cell_regrown y1
          have k2 := cell_regrown y2
          have k3 := cell_regrown b0
          have k4 := cell_regrown b1
          have k5 := cell_regrown b2
          have k6 := cell_regrown b3
          have k7 := cell_regrown b4
          clear y0 y1 y2 b0 b1 b2 b3 b4
          refine wp_region_quiet_below hmx (by kernel_rfl) ?_
          repeat (with_reducible refine wpQuiet_step (fun K hK => ?_); go_simp; with_reducible refine hK _ ?_; clear hK K)
          with_reducible refine wpQuiet_nil ?_
          intro _ hw'
          obtain ⟨⟨dq, osq⟩, hw''⟩ := hw'
          subst hw''
          dsimp only
          have HB4 : Hid (Below w2.heap.size w2 (grow (redrawn w2 dq) osq)) := hide (below_regrown w2 dq osq)
          obtain ⟨w5, hw5⟩ : ∃ W, W = grow (redrawn w2 dq) osq := ⟨_, rfl⟩
          rw [← hw5] at HB4 ⊢
          clear hw5 k0 k1 k2 k3 k4 k5 k6 k7
          go_wp2_with fail
          go_ret
          exact ⟨ret_int (check_no (HBc.out.trans (waits_not HY.out HWK.out))).symm, btrans hbw (btrans HB2.out HB4.out)⟩
        | true =>
          obtain ⟨x, hx, hxn⟩ := findIs_at hfs.symm
          obtain ⟨bE, oE, rfl, hbE, g1, g2⟩ := ext_cells HE.out hx
          have q0 : wr.cell? ⟨bE, oE + findI d.exts y.nm * 2, none⟩ = some (.string x.nm) := (hbw.cell (p := ⟨bE, oE + findI d.exts y.nm * 2, none⟩) hbE).trans g1
          have q1 : wr.cell? ⟨bE, oE + findI d.exts y.nm * 2 + 1, none⟩ = some (.string x.dt) := (hbw.cell (p := ⟨bE, oE + findI d.exts y.nm * 2 + 1, none⟩) hbE).trans g2
          have hxd := H3.out x (List.mem_of_getElem? hx)
          have hsx := fun W => HS.out x W hxd
          have hwk := waitOK_at hx hxn
          have hfl : findI d.exts y.nm < d.exts.length := (List.getElem?_eq_some_iff.1 hx).1
          have hsec : secsE x ≤ 1000000000 := by unfold secsE; omega
          obtain ⟨n1, n2⟩ := x
          unfold extV at hsx
          obtain ⟨q, hq⟩ : ∃ q, q = secsE ⟨n1, n2⟩ := ⟨_, rfl⟩
          rw [← hq] at hsx hwk hsec
          have HSX := hide hsx
          clear hsx hx hxn g1 g2 hfs hq
          dsimp only at q0 q1
          by_cases m1 : y.sec < 0
          · have HWK : Hid (waitOK d.exts y = false) := hide (by rw [hwk]; have : ¬ 0 ≤ y.sec := by omega
                                                                 simp [this])
            clear hwk
            go_wp2_with (go_at_call 149; refine Calls.mono (HFA.out _ (btrans hbw (ba1 _ _))) ?_; rintro e w2 ⟨rfl, hb2⟩; have hy2 := (Bk.new wr _ _).keep hb2; have hk2 := (hkr.alloc _).keep hb2; obtain ⟨y0, y1, y2⟩ := cells3 hy2; obtain ⟨b0, b1, b2, b3, b4⟩ := five_cells hk2; have p0 := ((btrans (ba1 wr _) hb2).cell (p := ⟨bE, oE + findI d.exts y.nm * 2, none⟩) (Nat.lt_of_lt_of_le hbE hbw.size)).trans q0; have p1 := ((btrans (ba1 wr _) hb2).cell (p := ⟨bE, oE + findI d.exts y.nm * 2 + 1, none⟩) (Nat.lt_of_lt_of_le hbE hbw.size)).trans q1; have HB2 := hide (btrans (ba1 wr _) hb2); clear q0 q1 hy2 hk2 hb2 hkr x1 x2 x3 c0 c1 c2 c3 c4)
            have hmx : Tryz.prog.follows .mixedOrders = true := by kernel_rfl
            have k0 := cell_regrown y0
            have k1 := cell_regrown y1
            have k2 := cell_regrown y2
            have k3 := cell_regrown b0
            have k4 := cell_regrown b1
            have k5 := cell_regrown b2
            have k6 := cell_regrown b3
            have k7 := cell_regrown b4
            have k8 := cell_regrown p0
            have k9 := cell_regrown p1
            clear y0 y1 y2 b0 b1 b2 b3 b4 p0 p1
            have cf0 := fun d os => Calls.regrown_of (w := w2) (d := d) (os := os) (HSX.out _)
            have CF0 := hide cf0
            clear cf0
            with_reducible refine wp_region_quiet_below hmx (by kernel_rfl) ?_
            repeat (with_reducible refine wpQuiet_step (fun K hK => ?_); go_simp; first | (with_reducible refine hK _ ?_; clear hK K) | (with_reducible apply Exists.intro; refine ⟨fun _ => ?_, hK _ ?_⟩; (with_reducible exact CF0.out _ _); clear hK K))
            with_reducible refine wpQuiet_nil ?_
            intro _ hw'
            obtain ⟨⟨dq, osq⟩, hw''⟩ := hw'
            subst hw''
            dsimp only
            have HB4 : Hid (Below w2.heap.size w2 (grow (redrawn w2 dq) osq)) := hide (below_regrown w2 dq osq)
            obtain ⟨w5, hw5⟩ : ∃ W, W = grow (redrawn w2 dq) osq := ⟨_, rfl⟩
            rw [← hw5] at HB4 ⊢
            clear hw5 k0 k1 k2 k3 k4 k5 k6 k7 k8 k9
            go_wp2_with fail
            go_ret
            exact ⟨ret_int (check_no (HBc.out.trans (waits_not HY.out HWK.out))).symm, btrans hbw (btrans HB2.out HB4.out)⟩
          by_cases m2 : (q : Int) ≤ y.sec
          · have HWK : Hid (waitOK d.exts y = false) := hide (by rw [hwk]; have : ¬ y.sec < (q : Int) := by omega
                                                                 simp [this])
            clear hwk
            go_wp2_with (go_at_call 149; refine Calls.mono (HFA.out _ (btrans hbw (ba1 _ _))) ?_; rintro e w2 ⟨rfl, hb2⟩; have hy2 := (Bk.new wr _ _).keep hb2; have hk2 := (hkr.alloc _).keep hb2; obtain ⟨y0, y1, y2⟩ := cells3 hy2; obtain ⟨b0, b1, b2, b3, b4⟩ := five_cells hk2; have p0 := ((btrans (ba1 wr _) hb2).cell (p := ⟨bE, oE + findI d.exts y.nm * 2, none⟩) (Nat.lt_of_lt_of_le hbE hbw.size)).trans q0; have p1 := ((btrans (ba1 wr _) hb2).cell (p := ⟨bE, oE + findI d.exts y.nm * 2 + 1, none⟩) (Nat.lt_of_lt_of_le hbE hbw.size)).trans q1; have HB2 := hide (btrans (ba1 wr _) hb2); clear q0 q1 hy2 hk2 hb2 hkr x1 x2 x3 c0 c1 c2 c3 c4)
            have hmx : Tryz.prog.follows .mixedOrders = true := by kernel_rfl
            have k0 := cell_regrown y0
            have k1 := cell_regrown y1
            have k2 := cell_regrown y2
            have k3 := cell_regrown b0
            have k4 := cell_regrown b1
            have k5 := cell_regrown b2
            have k6 := cell_regrown b3
            have k7 := cell_regrown b4
            have k8 := cell_regrown p0
            have k9 := cell_regrown p1
            clear y0 y1 y2 b0 b1 b2 b3 b4 p0 p1
            have cf0 := fun d os => Calls.regrown_of (w := w2) (d := d) (os := os) (HSX.out _)
            have CF0 := hide cf0
            clear cf0
            with_reducible refine wp_region_quiet_below hmx (by kernel_rfl) ?_
            repeat (with_reducible refine wpQuiet_step (fun K hK => ?_); go_simp; first | (with_reducible refine hK _ ?_; clear hK K) | (with_reducible apply Exists.intro; refine ⟨fun _ => ?_, hK _ ?_⟩; (with_reducible exact CF0.out _ _); clear hK K))
            with_reducible refine wpQuiet_nil ?_
            intro _ hw'
            obtain ⟨⟨dq, osq⟩, hw''⟩ := hw'
            subst hw''
            dsimp only
            have HB4 : Hid (Below w2.heap.size w2 (grow (redrawn w2 dq) osq)) := hide (below_regrown w2 dq osq)
            obtain ⟨w5, hw5⟩ : ∃ W, W = grow (redrawn w2 dq) osq := ⟨_, rfl⟩
            rw [← hw5] at HB4 ⊢
            clear hw5 k0 k1 k2 k3 k4 k5 k6 k7 k8 k9
            go_wp2_with fail
            go_ret
            exact ⟨ret_int (check_no (HBc.out.trans (waits_not HY.out HWK.out))).symm, btrans hbw (btrans HB2.out HB4.out)⟩
          by_cases m3 : (y.dt.size : Int) = 64
          · have HWK : Hid (waitOK d.exts y = true) := hide (by rw [hwk]; have a : 0 ≤ y.sec := by omega
                                                                have b : y.sec < (q : Int) := by omega
                                                                have c : y.dt.size = 64 := by omega
                                                                simp [a, b, c])
            clear hwk
            go_wp2_with (go_at_call 149; refine Calls.mono (HFA.out _ (btrans hbw (ba1 _ _))) ?_; rintro e w2 ⟨rfl, hb2⟩; have hy2 := (Bk.new wr _ _).keep hb2; have hk2 := (hkr.alloc _).keep hb2; obtain ⟨y0, y1, y2⟩ := cells3 hy2; obtain ⟨b0, b1, b2, b3, b4⟩ := five_cells hk2; have p0 := ((btrans (ba1 wr _) hb2).cell (p := ⟨bE, oE + findI d.exts y.nm * 2, none⟩) (Nat.lt_of_lt_of_le hbE hbw.size)).trans q0; have p1 := ((btrans (ba1 wr _) hb2).cell (p := ⟨bE, oE + findI d.exts y.nm * 2 + 1, none⟩) (Nat.lt_of_lt_of_le hbE hbw.size)).trans q1; have HB2 := hide (btrans (ba1 wr _) hb2); clear q0 q1 hy2 hk2 hb2 hkr x1 x2 x3 c0 c1 c2 c3 c4)
            have hmx : Tryz.prog.follows .mixedOrders = true := by kernel_rfl
            have k0 := cell_regrown y0
            have k1 := cell_regrown y1
            have k2 := cell_regrown y2
            have k3 := cell_regrown b0
            have k4 := cell_regrown b1
            have k5 := cell_regrown b2
            have k6 := cell_regrown b3
            have k7 := cell_regrown b4
            have k8 := cell_regrown p0
            have k9 := cell_regrown p1
            clear y0 y1 y2 b0 b1 b2 b3 b4 p0 p1
            have cf0 := fun d os => Calls.regrown_of (w := w2) (d := d) (os := os) (HSX.out _)
            have CF0 := hide cf0
            clear cf0
            with_reducible refine wp_region_quiet_below hmx (by kernel_rfl) ?_
            repeat (with_reducible refine wpQuiet_step (fun K hK => ?_); go_simp; first | (with_reducible refine hK _ ?_; clear hK K) | (with_reducible apply Exists.intro; refine ⟨fun _ => ?_, hK _ ?_⟩; (with_reducible exact CF0.out _ _); clear hK K))
            with_reducible refine wpQuiet_nil ?_
            intro _ hw'
            obtain ⟨⟨dq, osq⟩, hw''⟩ := hw'
            subst hw''
            dsimp only
            have HB4 : Hid (Below w2.heap.size w2 (grow (redrawn w2 dq) osq)) := hide (below_regrown w2 dq osq)
            obtain ⟨w5, hw5⟩ : ∃ W, W = grow (redrawn w2 dq) osq := ⟨_, rfl⟩
            rw [← hw5] at HB4 ⊢
            clear hw5 k0 k1 k2 k3 k4 k5 k6 k7 k8 k9
            go_wp2_with fail
            exact ⟨⟨k + 1, by simp, by omega, hide (waits_step hinv.out HY.out HWK.out), hide (btrans hbe.out (btrans HB2.out HB4.out))⟩, by simp [intOf]; omega⟩
          · have HWK : Hid (waitOK d.exts y = false) := hide (by rw [hwk]; have : ¬ y.dt.size = 64 := by omega
                                                                 simp [this])
            have m4 : ((y.dt.size : Int) != 64) = true := by simp; omega
            clear hwk
            go_wp2_with (go_at_call 149; refine Calls.mono (HFA.out _ (btrans hbw (ba1 _ _))) ?_; rintro e w2 ⟨rfl, hb2⟩; have hy2 := (Bk.new wr _ _).keep hb2; have hk2 := (hkr.alloc _).keep hb2; obtain ⟨y0, y1, y2⟩ := cells3 hy2; obtain ⟨b0, b1, b2, b3, b4⟩ := five_cells hk2; have p0 := ((btrans (ba1 wr _) hb2).cell (p := ⟨bE, oE + findI d.exts y.nm * 2, none⟩) (Nat.lt_of_lt_of_le hbE hbw.size)).trans q0; have p1 := ((btrans (ba1 wr _) hb2).cell (p := ⟨bE, oE + findI d.exts y.nm * 2 + 1, none⟩) (Nat.lt_of_lt_of_le hbE hbw.size)).trans q1; have HB2 := hide (btrans (ba1 wr _) hb2); clear q0 q1 hy2 hk2 hb2 hkr x1 x2 x3 c0 c1 c2 c3 c4)
            have hmx : Tryz.prog.follows .mixedOrders = true := by kernel_rfl
            have k0 := cell_regrown y0
            have k1 := cell_regrown y1
            have k2 := cell_regrown y2
            have k3 := cell_regrown b0
            have k4 := cell_regrown b1
            have k5 := cell_regrown b2
            have k6 := cell_regrown b3
            have k7 := cell_regrown b4
            have k8 := cell_regrown p0
            have k9 := cell_regrown p1
            clear y0 y1 y2 b0 b1 b2 b3 b4 p0 p1
            have cf0 := fun d os => Calls.regrown_of (w := w2) (d := d) (os := os) (HSX.out _)
            have CF0 := hide cf0
            clear cf0
            with_reducible refine wp_region_quiet_below hmx (by kernel_rfl) ?_
            repeat (with_reducible refine wpQuiet_step (fun K hK => ?_); go_simp; first | (with_reducible refine hK _ ?_; clear hK K) | (with_reducible apply Exists.intro; refine ⟨fun _ => ?_, hK _ ?_⟩; (with_reducible exact CF0.out _ _); clear hK K))
            with_reducible refine wpQuiet_nil ?_
            intro _ hw'
            obtain ⟨⟨dq, osq⟩, hw''⟩ := hw'
            subst hw''
            dsimp only
            have HB4 : Hid (Below w2.heap.size w2 (grow (redrawn w2 dq) osq)) := hide (below_regrown w2 dq osq)
            obtain ⟨w5, hw5⟩ : ∃ W, W = grow (redrawn w2 dq) osq := ⟨_, rfl⟩
            rw [← hw5] at HB4 ⊢
            clear hw5 k0 k1 k2 k3 k4 k5 k6 k7 k8 k9
            go_wp2_with fail
            go_ret
            exact ⟨ret_int (check_no (HBc.out.trans (waits_not HY.out HWK.out))).symm, btrans hbw (btrans HB2.out HB4.out)⟩
      · obtain rfl : k = d.waits.length := by omega
        go_wp2_with fail
        go_ret
        exact ⟨ret_int (check_ok (HBc.out.trans (waits_all hinv.out))).symm, hbw⟩
/-- Sizes within bounds. -/
structure SzD (d : Dsk) : Prop where
  exts : d.exts.length ≤ 1000000000
  waits : d.waits.length ≤ 1000000000
  ext : ∀ x ∈ d.exts, x.dt.size ≤ 1000000000
  wait : ∀ x ∈ d.waits, x.dt.size ≤ 1000000000
  fuse : d.fuse ≤ 9223372036854775807
theorem zero_at (w : World) : DvAt (w.alloc (.cells #[.int .i64 0, .slice none 0 0, .slice none 0 0, .int .i64 0, .bool false] 117)) (fl w.heap.size) w.heap.size zeroD := ⟨_, _, Bk.new _ _ _, World.ownsRow_nil _ _ _ _, World.ownsRow_nil _ _ _ _, ⟨Nat.le_refl _, fun g hg => by simp [Value.ownBlock] at hg, fun g hg => by simp [Value.ownBlock] at hg, by show w.heap.size ≤ _; simp⟩, by decide⟩
theorem DvAt.mono {w : World} {B B' : Fld} {q : Nat} {d : Dsk} (h : DvAt w B q d) (hB : ∀ g, B.ok g → B'.ok g) (ht : B'.top ≤ w.heap.size) : DvAt w B' q d := by
  obtain ⟨E, W, a1, a2, a3, a4⟩ := h
  exact ⟨E, W, a1, a2, a3, ⟨hB _ a4.1.dev, fun g hg => hB _ (a4.1.exts g hg), fun g hg => hB _ (a4.1.waits g hg), ht⟩, a4.2⟩
theorem DvAt.low {w : World} {n m q : Nat} {d : Dsk} (h : DvAt w (fl n) q d) (hm : m ≤ n) : DvAt w (fl m) q d := h.mono (fun g hg => Nat.le_trans hm hg) (by obtain ⟨E, W, a1, a2, a3, a4⟩ := h; exact Nat.le_trans hm a4.1.top)
set_option maxRecDepth 100000 in
set_option maxHeartbeats 4000000 in
theorem open_disk (v : Value) (d : Dsk) (w : World) (hv : Dv w w.heap.size v d) (hz : SzD d) :
    Calls Tryz.prog 72 #[v] w fun e w' => ∃ q, e = .returned (.tuple #[.pointer (some ⟨q, 0, none⟩), .int .i64 (openD d).2]) ∧ DvAt w' (fl w.heap.size) q (openD d).1 ∧ Below w.heap.size w w' := by
  have hck := fun (W : World) (h : Below w.heap.size w W) => check_disk v d W ((hv.below h).more h.size) hz.exts hz.waits hz.ext hz.wait
  have how := fun (W : World) (h : Below w.heap.size w W) => own_any v d W ((hv.below h).more h.size) hz.exts hz.waits
  have HV := hide hv
  obtain ⟨AE, cE, AW, cW, rfl, hE, hW⟩ := hv
  obtain ⟨t, ht⟩ : ∃ t, t = checkB d := ⟨_, rfl⟩
  have hcd : checkD d = if t then 0 else 2 := by unfold checkD; rw [ht]
  have hod : openD d = if t then (d, if d.down then 10 else 0) else (zeroD, 2) := by unfold openD; rw [ht]
  rw [hcd] at hck
  rw [hod]
  have HCk := hide hck
  have HOw := hide how
  clear hck how hcd hod ht hE hW
  obtain ⟨wB, hwB⟩ : ∃ wB, wB = w.alloc (.cells #[.int .i64 d.size, .slice AE d.exts.length cE, .slice AW d.waits.length cW, .int .i64 d.fuse, .bool d.down] 25) := ⟨_, rfl⟩
  have hbB : Below w.heap.size w wB := by rw [hwB]; exact ba1 _ _
  have hkB : Bk wB w.heap.size 25 #[.int .i64 d.size, .slice AE d.exts.length cE, .slice AW d.waits.length cW, .int .i64 d.fuse, .bool d.down] := by rw [hwB]; exact Bk.new _ _ _
  have HbB := hide hbB
  have HkB := hide hkB
  clear hbB hkB
  cases t with
  | false =>
    go_enter Tryz.func72, Tryz.ntmps72
    go_wp2_with (go_at_call 114; rw [← hwB]; refine Calls.mono (HCk.out _ HbB.out) ?_; rintro e w1 ⟨rfl, hb1⟩; have HB1 := hide hb1; clear hb1 hwB)
    refine bodyPost_ret (v := .tuple #[.pointer (some ⟨w1.heap.size, 0, none⟩), .int .i64 2]) (by simp [results, Tryz.results72, go_sem]) rfl ?_
    exact ⟨_, rfl, (zero_at w1).low (btrans HbB.out HB1.out).size, btrans (btrans HbB.out HB1.out) (ba1 _ _)⟩
  | true =>
    obtain ⟨sz, ex, wt, fu, dn⟩ := d
    dsimp only at HkB hwB HOw HCk ⊢
    have HWB := hide hwB
    clear hwB
    cases dn with
    | false =>
      go_enter Tryz.func72, Tryz.ntmps72
      go_wp2_with (first
        | (have hn0 := HB1; clear hn0; go_at_call 76; refine Calls.mono (HOw.out _ HB1.out) ?_; rintro e w2 ⟨⟨A, c, A', c', rfl, o1, o2⟩, hb2⟩; have hk2 := HK1.out.keep hb2; obtain ⟨d0, d1, d2, d3, d4⟩ := five_cells hk2; have hlt2 := hk2.lt; have HO1 := hide o1; have HO2 := hide o2; have HB2 := hide (btrans HB1.out hb2); clear hb2 hk2 o1 o2)
        | (go_at_call 114; rw [← HWB.out]; refine Calls.mono (HCk.out _ HbB.out) ?_; rintro e w1 ⟨rfl, hb1⟩; have hk1 := HkB.out.keep hb1; obtain ⟨c0, c1, c2, c3, c4⟩ := five_cells hk1; have HK1 := hide hk1; have HB1 := hide (btrans HbB.out hb1); clear hb1 hk1))
      refine bodyPost_ret (v := .tuple #[.pointer (some ⟨w2.heap.size, 0, none⟩), .int .i64 0]) (by simp [results, Tryz.results72, go_sem]) rfl ?_
      exact ⟨_, rfl, ⟨_, _, Bk.new _ _ _, own_keep (own_mono HO1.out (Nat.zero_le _)) (ba1 _ _), own_keep (own_mono HO2.out (Nat.zero_le _)) (ba1 _ _), ⟨HB2.out.size, fun g hg => Nat.le_trans HB1.out.size (HO1.out.lt g hg).1, fun g hg => Nat.le_trans HB1.out.size (HO2.out.lt g hg).1, Nat.le_trans HB2.out.size (by simp)⟩, hz.fuse⟩, btrans HB2.out (ba1 _ _)⟩
    | true =>
      go_enter Tryz.func72, Tryz.ntmps72
      go_wp2_with (first
        | (have hn0 := HB1; clear hn0; go_at_call 76; refine Calls.mono (HOw.out _ HB1.out) ?_; rintro e w2 ⟨⟨A, c, A', c', rfl, o1, o2⟩, hb2⟩; have hk2 := HK1.out.keep hb2; obtain ⟨d0, d1, d2, d3, d4⟩ := five_cells hk2; have hlt2 := hk2.lt; have HO1 := hide o1; have HO2 := hide o2; have HB2 := hide (btrans HB1.out hb2); clear hb2 hk2 o1 o2)
        | (go_at_call 114; rw [← HWB.out]; refine Calls.mono (HCk.out _ HbB.out) ?_; rintro e w1 ⟨rfl, hb1⟩; have hk1 := HkB.out.keep hb1; obtain ⟨c0, c1, c2, c3, c4⟩ := five_cells hk1; have HK1 := hide hk1; have HB1 := hide (btrans HbB.out hb1); clear hb1 hk1))
      refine bodyPost_ret (v := .tuple #[.pointer (some ⟨w2.heap.size, 0, none⟩), .int .i64 10]) (by simp [results, Tryz.results72, go_sem]) rfl ?_
      exact ⟨_, rfl, ⟨_, _, Bk.new _ _ _, own_keep (own_mono HO1.out (Nat.zero_le _)) (ba1 _ _), own_keep (own_mono HO2.out (Nat.zero_le _)) (ba1 _ _), ⟨HB2.out.size, fun g hg => Nat.le_trans HB1.out.size (HO1.out.lt g hg).1, fun g hg => Nat.le_trans HB1.out.size (HO2.out.lt g hg).1, Nat.le_trans HB2.out.size (by simp)⟩, hz.fuse⟩, btrans HB2.out (ba1 _ _)⟩
end Go.Proofs.YtmopegpkoedgbaaGreatDoor
/- Walks: (*disk.Dev).Room, place. -/
namespace Go.Proofs.YtmopegpkoedgbaaGreatDoor
open Go.RowKit Go.Sort

theorem used_mem {l : List Ext} {x : Ext} (h : x ∈ l) : secsE x ≤ usedE l := by
  induction l with
  | nil => cases h
  | cons y l ih =>
    rw [usedE_cons]
    rcases List.mem_cons.1 h with rfl | h
    · omega
    · have := ih h; omega
theorem used_len {l : List Ext} (h : ∀ x ∈ l, extOK x) : l.length ≤ usedE l := by
  induction l with
  | nil => exact Nat.zero_le _
  | cons y l ih =>
    rw [usedE_cons, List.length_cons]
    have h1 := ih (fun x hx => h x (List.mem_cons_of_mem _ hx))
    obtain ⟨_, h2, h3⟩ := h y List.mem_cons_self
    have : 1 ≤ secsE y := by unfold secsE; omega
    omega
theorem Right.ext_size {d : Dsk} (h : Right d) {x : Ext} (hx : x ∈ d.exts) : x.dt.size ≤ 1048576 := by
  have h1 := used_mem hx
  have h2 := h.used
  have h3 := h.size1
  obtain ⟨_, _, h4⟩ := h.exts x hx
  unfold secsE at h1
  omega
theorem Right.len {d : Dsk} (h : Right d) : d.exts.length ≤ 16384 := by
  have h1 := used_len h.exts
  have h2 := h.used
  have h3 := h.size1
  omega
theorem Right.sz {d : Dsk} (h : Right d) (hf : d.fuse ≤ 9223372036854775807) : SzD d := ⟨by have := h.len; omega, by have := h.nwaits; omega, fun x hx => by have := h.ext_size hx; omega, fun w hw => by
  obtain ⟨x, _, _, _, _, e⟩ := h.waits w hw
  omega, hf⟩
theorem used_drop {l : List Ext} {k : Nat} {x : Ext} (h : l[k]? = some x) : usedE (l.take (k + 1)) = usedE (l.take k) + secsE x := by
  rw [List.take_add_one, h, usedE_app]; simp [usedE]
theorem used_take (l : List Ext) (k : Nat) : usedE (l.take k) ≤ usedE l := by
  have := usedE_app (l.take k) (l.drop k)
  rw [List.take_append_drop] at this
  omega
set_option maxRecDepth 100000 in
set_option maxHeartbeats 4000000 in
theorem room_disk (B : Fld) (q : Nat) (d : Dsk) (w : World) (hd : DvAt w B q d) (hr : Right d) :
    Calls Tryz.prog 151 #[.pointer (some ⟨q, 0, none⟩)] w fun e w' => e = .returned (.int .i64 (roomD d)) ∧ Below w.heap.size w w' := by
  obtain ⟨E, W, hk, hE, hW, hq⟩ := hd
  obtain ⟨A, c, rfl⟩ := own_formk hE
  have hR := own_rdk hE
  have hlen := hr.len
  have hu := hr.used
  have h0 := hr.size0
  have h1 := hr.size1
  have hs := fun (x : Ext) (W : World) (h : x ∈ d.exts) => sectors_any x W (by have := hr.ext_size h; omega)
  have HS := hide hs
  have HR := hide hR
  have HU := hide (used_take d.exts)
  obtain ⟨c0, c1, c2, c3, c4⟩ := five_cells hk
  have hql := hk.lt
  have HK := hide hk
  clear hs hR hE hW hr hk
  unfold roomD
  go_enter Tryz.func151, Tryz.ntmps151
  go_wp2_with fail
  go_loopw [3, 17] (fun s3 i wr => ∃ k : Nat, i = .int .i64 k ∧ k ≤ d.exts.length ∧ s3 = .int .i64 (d.size - (usedE (d.exts.take k) : Nat)) ∧ Hid (Below w.heap.size w wr)) (fun _ i _ => d.exts.length - (intOf i).toNat)
  case atStart => exact ⟨0, rfl, by omega, v_int (by simp [usedE]), hide (Below.refl _ _)⟩
  case round =>
    obtain ⟨k, rfl, hk, rfl, hbe⟩ := hrel
    by_cases hlt : k < d.exts.length
    · obtain ⟨x, hx⟩ : ∃ x, d.exts[k]? = some x := ⟨d.exts[k], List.getElem?_eq_getElem hlt⟩
      obtain ⟨b, o, rfl, hb, e1, e2⟩ := ext_cells HR.out hx
      have x1 : wr.cell? ⟨b, o + k * 2, none⟩ = some (.string x.nm) := (hbe.out.cell (p := ⟨b, o + k * 2, none⟩) hb).trans e1
      have x2 : wr.cell? ⟨b, o + k * 2 + 1, none⟩ = some (.string x.dt) := (hbe.out.cell (p := ⟨b, o + k * 2 + 1, none⟩) hb).trans e2
      have hsx := fun W => HS.out x W (List.mem_of_getElem? hx)
      have hud := used_drop hx
      have hut := HU.out (k + 1)
      obtain ⟨n1, n2⟩ := x
      unfold extV at hsx
      obtain ⟨g, hg⟩ : ∃ g, g = secsE ⟨n1, n2⟩ := ⟨_, rfl⟩
      obtain ⟨u, hu1⟩ : ∃ u, u = usedE (d.exts.take k) := ⟨_, rfl⟩
      rw [← hg] at hsx hud
      rw [← hu1] at hud ⊢
      rw [hud] at hut
      have HSX := hide hsx
      have HUD := hide hud
      clear e1 e2 hsx hud hx hg hu1
      go_wp2_with (go_at_call 157; refine (HSX.out _).mono ?_; rintro e w2 ⟨rfl, hb2⟩; have HB2 := hide hb2; clear hb2)
      refine ⟨⟨k + 1, by simp, by omega, v_int (by rw [HUD.out]; push_cast; omega), hide (btrans hbe.out (btrans (ba1 _ _) HB2.out))⟩, by simp [intOf]; omega⟩
    · obtain rfl : k = d.exts.length := by omega
      go_wp2_with fail
      go_ret
      exact ⟨ret_int (by rw [List.take_length]), hbe.out⟩
/-- What place says, told by the search. -/
theorem placeD_at {d : Dsk} {name : ByteArray} {sec : Int} {x : Ext} (hx : d.exts[findI d.exts name]? = some x) (e : x.nm = name) : placeD d name sec = if sec < 0 ∨ (secsE x : Nat) ≤ sec then (0, 1) else (findI d.exts name, 0) := by
  unfold placeD; rw [hx]; simp [e]
theorem placeD_no {d : Dsk} {name : ByteArray} {sec : Int} (h : findIs d.exts name = false) : placeD d name sec = (0, 3) := by
  unfold findIs at h
  unfold placeD
  cases hx : d.exts[findI d.exts name]? with
  | none => rfl
  | some x => rw [hx] at h; have : ¬ x.nm = name := of_decide_eq_false h
              simp [this]
set_option maxRecDepth 100000 in
set_option maxHeartbeats 4000000 in
theorem place_disk (B : Fld) (q : Nat) (d : Dsk) (name : ByteArray) (sec : Int) (w : World) (hd : DvAt w B q d) (hr : Right d) :
    Calls Tryz.prog 128 #[.pointer (some ⟨q, 0, none⟩), .string name, .int .i64 sec] w fun e w' => e = .returned (.tuple #[.int .i64 ((placeD d name sec).1 : Nat), .int .i64 (placeD d name sec).2]) ∧ Below w.heap.size w w' := by
  obtain ⟨E, W, hk, hE, hW, hq⟩ := hd
  obtain ⟨A, c, rfl⟩ := own_formk hE
  have hR := own_rdk hE
  have hlen := hr.len
  have hfa := find_any A c d.exts name w hR (by omega)
  obtain ⟨c0, c1, c2, c3, c4⟩ := five_cells hk
  have hql := hk.lt
  have HK := hide hk
  obtain ⟨fs, hfs⟩ : ∃ fs, fs = findIs d.exts name := ⟨_, rfl⟩
  rw [← hfs] at hfa
  have HFA := hide hfa
  clear hfa hE hW hk
  cases fs with
  | false =>
    rw [placeD_no hfs.symm]
    clear hR hr hfs
    go_enter Tryz.func128, Tryz.ntmps128
    go_wp2_with (go_at_call 149; refine Calls.mono HFA.out ?_; rintro e w1 ⟨rfl, hb1⟩; have HB1 := hide hb1; clear hb1)
    refine bodyPost_ret (v := .tuple #[.int .i64 0, .int .i64 3]) (by simp [results, Tryz.results128, go_sem]) rfl ?_
    exact ⟨rfl, HB1.out⟩
  | true =>
    obtain ⟨x, hx, hxn⟩ := findIs_at hfs.symm
    have hpl := placeD_at (sec := sec) hx hxn
    have hsx := fun W => sectors_any x W (by have := hr.ext_size (List.mem_of_getElem? hx); omega)
    obtain ⟨b, o, rfl, hb, e1, e2⟩ := ext_cells hR hx
    have hfl : findI d.exts name < d.exts.length := (List.getElem?_eq_some_iff.1 hx).1
    rw [hpl]
    obtain ⟨n1, n2⟩ := x
    unfold extV at hsx
    obtain ⟨g, hg⟩ : ∃ g, g = secsE ⟨n1, n2⟩ := ⟨_, rfl⟩
    rw [← hg] at hsx ⊢
    have HSX := hide hsx
    obtain ⟨fi, hfi⟩ : ∃ fi, fi = findI d.exts name := ⟨_, rfl⟩
    rw [← hfi] at HFA e1 e2 hfl ⊢
    clear hR hr hsx hg hpl hx hxn hfs hfi
    dsimp only at e1 e2
    by_cases m1 : sec < 0
    · rw [if_pos (.inl m1)]
      go_enter Tryz.func128, Tryz.ntmps128
      go_wp2_with (go_at_call 149; refine Calls.mono HFA.out ?_; rintro e w1 ⟨rfl, hb1⟩; have HB1 := hide hb1; clear hb1)
      refine bodyPost_ret (v := .tuple #[.int .i64 0, .int .i64 1]) (by simp [results, Tryz.results128, go_sem]) rfl ?_
      exact ⟨rfl, HB1.out⟩
    · by_cases m2 : (g : Int) ≤ sec
      · rw [if_pos (.inr m2)]
        go_enter Tryz.func128, Tryz.ntmps128
        go_wp2_with (first
          | (go_at_call 149; refine Calls.mono HFA.out ?_; rintro e w1 ⟨rfl, hb1⟩; obtain ⟨d0, d1, d2, d3, d4⟩ := five_cells (HK.out.keep hb1); have p0 := (hb1.cell (p := ⟨b, o + fi * 2, none⟩) hb).trans e1; have p1 := (hb1.cell (p := ⟨b, o + fi * 2 + 1, none⟩) hb).trans e2; have HB1 := hide hb1; clear hb1)
          | (go_at_call 157; refine (HSX.out _).mono ?_; rintro e w2 ⟨rfl, hb2⟩; have HB2 := hide hb2; clear hb2))
        refine bodyPost_ret (v := .tuple #[.int .i64 0, .int .i64 1]) (by simp [results, Tryz.results128, go_sem]) rfl ?_
        exact ⟨rfl, btrans HB1.out HB2.out⟩
      · rw [if_neg (by omega)]
        go_enter Tryz.func128, Tryz.ntmps128
        go_wp2_with (first
          | (go_at_call 149; refine Calls.mono HFA.out ?_; rintro e w1 ⟨rfl, hb1⟩; obtain ⟨d0, d1, d2, d3, d4⟩ := five_cells (HK.out.keep hb1); have p0 := (hb1.cell (p := ⟨b, o + fi * 2, none⟩) hb).trans e1; have p1 := (hb1.cell (p := ⟨b, o + fi * 2 + 1, none⟩) hb).trans e2; have HB1 := hide hb1; clear hb1)
          | (go_at_call 157; refine (HSX.out _).mono ?_; rintro e w2 ⟨rfl, hb2⟩; have HB2 := hide hb2; clear hb2))
        refine bodyPost_ret (v := .tuple #[.int .i64 (fi : Nat), .int .i64 0]) (by simp [results, Tryz.results128, go_sem]) rfl ?_
        exact ⟨rfl, btrans HB1.out HB2.out⟩
end Go.Proofs.YtmopegpkoedgbaaGreatDoor
