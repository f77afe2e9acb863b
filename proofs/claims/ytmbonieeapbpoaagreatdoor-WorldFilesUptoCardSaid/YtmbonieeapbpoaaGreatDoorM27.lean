/- Lemmas for the row: FreeC, WlD, WlE, WlF, WlH, WlI. -/
import Derived.Test.YtmbonieeapbpoaaGreatDoorM10
import Derived.Test.YtmbonieeapbpoaaGreatDoorM25
import Derived.Test.YtmbonieeapbpoaaGreatDoorM26
import Derived.Deep.RegionHeld3
import Derived.Laws.EntriesVeiled
set_option linter.unusedVariables false
set_option linter.unusedSimpArgs false
/- Walks: slices.DeleteFunc where nothing waits; forget and Free there; disk.done; disk.Free of one name where nothing waits. -/
namespace Go.Proofs.YtmbonieeapbpoaaGreatDoor
open Go.RowKit Go.Sort

theorem idxf0_any (A : Option Addr) (c : Nat) (F : Value) (w : World) : Calls Tryz.prog 170 #[.slice A 0 c, F] w fun e w' => e = .returned (.int .i64 (-1)) ∧ w' = w := by
  go_enter Tryz.func170, Tryz.ntmps170
  go_wp2_with fail
  go_loopw [8] (fun i wr => i = .int .i64 0 ∧ wr = w) (fun _ _ => 0)
  case atStart => exact ⟨rfl, rfl⟩
  case round =>
    obtain ⟨rfl, rfl⟩ := hrel
    go_wp2_with fail
    go_ret
    exact ⟨rfl, rfl⟩
theorem delf0_any (A : Option Addr) (c : Nat) (F : Value) (w : World) : Calls Tryz.prog 120 #[.slice A 0 c, F] w fun e w' => e = .returned (.slice A 0 c) ∧ w' = w := by
  go_enter Tryz.func120, Tryz.ntmps120
  go_wp2_with (go_at_call 170; refine Calls.mono (idxf0_any _ _ _ _) ?_; rintro e w1 ⟨rfl, rfl⟩)
  go_ret
  exact ⟨rfl, rfl⟩
set_option maxRecDepth 100000 in
set_option maxHeartbeats 4000000 in
theorem forget0_any (B : Fld) (q : Nat) (d : Dsk) (name : ByteArray) (w : World) (hd : DvAt w B q d) (h0 : d.waits = []) :
    Calls Tryz.prog 83 #[.pointer (some ⟨q, 0, none⟩), .string name] w fun e w' => e = .returned (.tuple #[]) ∧ DvAt w' B q d ∧ AFr DTy B w w' := by
  obtain ⟨E, W, hk, hE, hW, hqf⟩ := hd
  obtain ⟨AE, cE, rfl⟩ := own_formk hE
  obtain ⟨AW, cW, rfl⟩ := own_formk hW
  obtain ⟨W1, hW1⟩ : ∃ W1, W1 = w.alloc (.cells #[.string name] 9) := ⟨_, rfl⟩
  have hb1 : Below w.heap.size w W1 := by rw [hW1]; exact ba1 _ _
  have hk1 := hk.keep hb1
  have hE1 := own_keep hE hb1
  have hW1' := own_keep hW hb1
  have c2 := hk1.cell 2
  have f2 := hk1.free 2
  have hl := hk1.lt
  have hlen : d.waits.length = 0 := by rw [h0]; rfl
  have hq := hqf.1
  have HK := hide hk1
  have HE := hide hE1
  have HW := hide hW1'
  have HB := hide hb1
  have HX := hide hW1
  have HQ := hide hqf
  have HL := hide hlen
  rw [hlen] at c2
  clear hk hE hW hk1 hE1 hW1' hb1 hW1 hqf hlen h0
  go_enter Tryz.func83, Tryz.ntmps83
  go_upto_region 1 with fail
  rw [← HX.out]
  go_wp2_with (go_at_call 120; refine Calls.mono (delf0_any _ _ _ _) ?_; rintro e w2 ⟨rfl, ew⟩; obtain rfl : W1 = w2 := ew.symm)
  go_end0
  have k3 := HK.out.set_ 2 (.slice AW 0 cW)
  have hW3 := own_set HW.out (p := ⟨q, 2, none⟩) (fun e => own_ne HW.out HK.out (by decide) e.symm) (.slice AW 0 cW)
  have hE3 := own_set HE.out (p := ⟨q, 2, none⟩) (fun e => own_ne HE.out HK.out (by decide) e.symm) (.slice AW 0 cW)
  refine ⟨rfl, ⟨.slice AE d.exts.length cE, .slice AW d.waits.length cW, by rw [HL.out]; exact k3, hE3, hW3, ⟨hq.dev, hq.exts, hq.waits, by have := hq.top; have := HB.out.size; rw [size_setCell]; omega⟩, HQ.out.2⟩, ?_⟩
  exact (AFr.below HB.out).set_ HK.out hq.dev (by unfold DTy; simp) 2 _
theorem freeD_eq {d : Dsk} {name : ByteArray} (h : findIs d.exts name = true) (h0 : d.waits = []) : freeD d name = ({ d with exts := delE d.exts (findI d.exts name) }, 0) := by
  unfold freeD forgetD
  rw [if_pos h]
  simp [h0]
set_option maxRecDepth 100000 in
set_option maxHeartbeats 4000000 in
theorem dvfree_any (B : Fld) (q r : Nat) (d : Dsk) (name : ByteArray) (w : World) (hd : DvAt w B q d) (hr : Right d) (h0 : d.waits = []) (hfi : findIs d.exts name = true) (hn : d.exts.length = findI d.exts name + 1 + (r + 1)) :
    Calls Tryz.prog 50 #[.pointer (some ⟨q, 0, none⟩), .string name] w fun e w' => e = .returned (.int .i64 0) ∧ DvAt w' B q (freeD d name).1 ∧ AFr DTy B w w' := by
  rw [freeD_eq hfi h0]
  obtain ⟨E, W, hk, hE, hW, hqf⟩ := hd
  obtain ⟨AE, cE, rfl⟩ := own_formk hE
  obtain ⟨g, rfl, hcE⟩ := own_some hE (by omega)
  have hlen := hr.len
  have hR := own_rdk hE
  have hfa := find_any (some ⟨g, 0, none⟩) cE d.exts name w hR (by omega)
  obtain ⟨fi, hfi2⟩ : ∃ fi, fi = findI d.exts name := ⟨_, rfl⟩
  rw [hfi, ← hfi2] at hfa
  rw [← hfi2] at hn ⊢
  have hdl := fun (W : World) (h : Below w.heap.size w W) => del_any g fi r cE d.exts W (own_keep hE h) (by omega) hn
  obtain ⟨c0, c1, c2, c3, c4⟩ := five_cells hk
  have hql := hk.lt
  have hq := hqf.1
  have hfs : (fi : Int) + 1 ≤ 9223372036854775807 := by omega
  have e1 : IntKind.i64.wrap ((fi : Int) + 1) = (fi : Int) + 1 := IntWalk.i64_in _ ⟨by omega, by omega⟩
  have hgq : g ≠ q := fun e => own_ne hE hk (by decide) (by rw [e]; rfl)
  have hgW : (W.ownBlock) ≠ some g := fun e => own_apart hW hE (by decide) e rfl
  have HD := hide hdl
  have HFA := hide hfa
  have HK := hide hk
  have HE := hide hE
  have HW := hide hW
  have HQF := hide hqf
  have H0 := hide h0
  have HG := hide hgq
  have HGW := hide hgW
  clear hdl hfa hk hE hW hqf h0 hR hr hfi hfi2 hn hgq hgW
  go_enter Tryz.func50, Tryz.ntmps50
  go_upto_region 4 with (go_at_call 41; refine Calls.mono HFA.out ?_; rintro e w1 ⟨rfl, hb1⟩; have hk1 := HK.out.keep hb1; obtain ⟨d0, d1, d2, d3, d4⟩ := five_cells hk1; have hl1 := hk1.lt; have HB1 := hide hb1; have HK1 := hide hk1; clear hb1 hk1)
  go_upto_region 5 with (go_at_call 82; refine Calls.mono (HD.out _ HB1.out) ?_; rintro e w2 ⟨rfl, ho2, hf2⟩; have hk2 := HK1.out.fr hf2 (fun e => HG.out e.symm); have x1 := hk2.free 1; have x2 := hk2.cell 1; have hl2 := hk2.lt; have HK2 := hide hk2; have HO2 := hide ho2; have HF2 := hide hf2; clear hk2 ho2 hf2)
  obtain ⟨W3, hW3⟩ : ∃ W3, W3 = w2.setCell ⟨q, 1, none⟩ (.slice (some ⟨g, 0, none⟩) (delE d.exts fi).length cE) := ⟨_, rfl⟩
  rw [← hW3]
  have hfw : AFr DTy B w w2 := (AFr.below HB1.out).trans (Fr.mono HF2.out fun k hk => by
    subst hk
    obtain ⟨_, cur, hcur⟩ := own_bk (own_keep HE.out HB1.out)
    exact ⟨hq.exts k rfl, cur, _, _, hcur, by unfold DTy; simp⟩)
  have hWk := own_fr (own_keep HW.out HB1.out) HF2.out (fun k hk hs => by subst hs; exact HGW.out hk)
  have k3 := HK2.out.set_ 1 (.slice (some ⟨g, 0, none⟩) (delE d.exts fi).length cE)
  have hd3 : DvAt W3 B q { d with exts := delE d.exts fi } := by
    rw [hW3]
    exact ⟨_, _, k3, own_set HO2.out (p := ⟨q, 1, none⟩) (fun e => own_ne HO2.out HK2.out (by decide) e.symm) _, own_set hWk (p := ⟨q, 1, none⟩) (fun e => own_ne hWk HK2.out (by decide) e.symm) _, ⟨hq.dev, hq.exts, hq.waits, by have := hq.top; have := HB1.out.size; have := HF2.out.size; rw [size_setCell]; omega⟩, HQF.out.2⟩
  have hf3 : AFr DTy B w W3 := by rw [hW3]; exact hfw.set_ HK2.out hq.dev (by unfold DTy; simp) 1 _
  have hfg := forget0_any B q { d with exts := delE d.exts fi } name W3 hd3 H0.out
  have HFg := hide hfg
  have HF3 := hide hf3
  clear hfg hd3 hf3 hfw hWk k3 hW3
  go_wp2_with (go_at_call 83; refine Calls.mono HFg.out ?_; rintro e w4 ⟨rfl, hd4, hf4⟩; have HD4 := hide hd4; have HF4 := hide hf4; clear hd4 hf4)
  go_ret
  exact ⟨rfl, HD4.out, HF3.out.trans HF4.out⟩
set_option maxRecDepth 100000 in
set_option maxHeartbeats 4000000 in
theorem done_any (B : Fld) (q : Nat) (d : Dsk) (z : Int) (w : World) (hd : DvAt w B q d) :
    Calls Tryz.prog 49 #[.pointer (some ⟨q, 0, none⟩), .int .i64 z] w (PutA w (d, z)) := by
  obtain ⟨W1, hW1⟩ : ∃ W1, W1 = w.alloc (.cells #[.int .i64 0, .slice none 0 0, .slice none 0 0, .int .i64 0, .bool false] 25) := ⟨_, rfl⟩
  have hb1 : Below w.heap.size w W1 := by rw [hW1]; exact ba1 _ _
  have kr : Bk W1 w.heap.size 25 #[.int .i64 0, .slice none 0 0, .slice none 0 0, .int .i64 0, .bool false] := by rw [hW1]; exact Bk.new _ _ _
  obtain ⟨AE, cE, AW, cW, hk, hout⟩ := (hd.keep hb1).out kr
  obtain ⟨c0, c1, c2, c3, c4⟩ := five_cells hk
  obtain ⟨r0, r1, r2, r3, r4⟩ := five_cells kr
  obtain ⟨f0, f1, f2, f3, f4⟩ := five_free kr
  have hl := hk.lt
  have hl2 := kr.lt
  have HK := hide hk
  have HR := hide kr
  have HB := hide hb1
  have HX := hide hW1
  have HO := hide hout
  have hne : q ≠ w.heap.size := fun e => by have := hd.lt; omega
  clear hk kr hb1 hW1 hd hout
  go_enter Tryz.func49, Tryz.ntmps49
  go_upto_region 1 with fail
  rw [← HX.out]
  go_wp2_with fail
  refine bodyPost_ret (v := .tuple #[.agg #[_, _, _, _, _], .int .i64 z]) (res_d2 Tryz.results49 (pt5_bk HR.out _ _ _ _ _) rfl rfl) rfl ?_
  exact put_end rfl HO.out ⟨HB.out, Nat.le_refl _⟩
set_option maxRecDepth 100000 in
set_option maxHeartbeats 8000000 in
/-- disk.Free of one name that is there, where nothing waits, and where another extent lies behind it. -/
theorem free1_any (v : Value) (d : Dsk) (name : ByteArray) (r a : Nat) (w : World) (hv : Dv w w.heap.size v d) (hz : SzD d) (ho : openD d = (d, 0)) (h0 : d.waits = []) (hfi : findIs d.exts name = true) (hn : d.exts.length = findI d.exts name + 1 + (r + 1)) (ha : w.cell? ⟨a, 0, none⟩ = some (.string name)) (hal : a < w.heap.size) :
    Calls Tryz.prog 32 #[v, .slice (some ⟨a, 0, none⟩) 1 1] w (PutA w (freeD d name)) := by
  have hop := fun (W : World) (h : Below w.heap.size w W) => open_disk v d W ((hv.below h).more h.size) hz
  obtain ⟨AE, cE, AW, cW, rfl, hE, hW⟩ := hv
  obtain ⟨W0, hW0⟩ : ∃ W0, W0 = (w.alloc (.cells #[.int .i64 d.size, .slice AE d.exts.length cE, .slice AW d.waits.length cW, .int .i64 d.fuse, .bool d.down] 25)).alloc (.cells #[.int .i64 0, .slice none 0 0, .slice none 0 0, .int .i64 0, .bool false] 25) := ⟨_, rfl⟩
  have hb0 : Below w.heap.size w W0 := by rw [hW0]; exact ba2 _ _ _
  have kp0 : Bk W0 w.heap.size 25 #[.int .i64 d.size, .slice AE d.exts.length cE, .slice AW d.waits.length cW, .int .i64 d.fuse, .bool d.down] := by rw [hW0]; exact (Bk.new _ _ _).alloc _
  have kr0 : Bk W0 (w.heap.size + 1) 25 #[.int .i64 0, .slice none 0 0, .slice none 0 0, .int .i64 0, .bool false] := by rw [hW0]; exact Bk.new1 _ _ _ _
  obtain ⟨p0, p1, p2, p3, p4⟩ := five_cells kp0
  have lp := kp0.lt
  have hO := hop W0 hb0
  have hri := openD_right d
  rw [ho] at hO hri
  have hfe := freeD_eq hfi h0
  have HO := hide hO
  have HW0 := hide hW0
  have HB0 := hide hb0
  have HR0 := hide kr0
  have HA := hide ha
  have HRi := hide hri
  have H0 := hide h0
  have HFi := hide hfi
  have HN := hide hn
  have HFe := hide hfe
  have hz0 := hb0.size
  clear hE hW hop hW0 hb0 kp0 kr0 hO ha hri h0 hfi hn hfe ho
  go_enter Tryz.func32, Tryz.ntmps32
  go_upto_region 2 with (rw [← HW0.out]; go_at_call 48; refine Calls.mono HO.out ?_; rintro e w1 ⟨q, rfl, hd1, hb1⟩; have HD1 := hide hd1; have HB1 := hide hb1; have HR1 := hide (HR0.out.keep hb1); have a1 := (HB0.out.trans (hb1.mono HB0.out.size)).cell (p := ⟨a, 0, none⟩) hal; rw [HA.out] at a1; clear hd1 hb1)
  go_wp2_with fail
  have HA1 := hide a1
  clear a1
  go_loopw [25] (fun iv wr => (iv = .int .i64 0 ∧ wr = w1) ∨ (iv = .int .i64 1 ∧ Hid (DvAt wr (fl W0.heap.size) q (freeD d name).1) ∧ Hid (Bk wr (w.heap.size + 1) 25 #[.int .i64 0, .slice none 0 0, .slice none 0 0, .int .i64 0, .bool false]) ∧ Hid (Below W0.heap.size W0 wr))) (fun iv _ => 1 - (intOf iv).toNat)
  case atStart => exact .inl ⟨rfl, rfl⟩
  case round =>
    rcases hrel with ⟨rfl, rfl⟩ | ⟨rfl, HD2, HR2, HB2⟩
    · have a1 := HA1.out
      have hfr := dvfree_any (fl W0.heap.size) q r d name wr HD1.out HRi.out H0.out HFi.out HN.out
      have HFr := hide hfr
      clear hfr
      go_wp2_with (go_at_call 50; refine Calls.mono HFr.out ?_; rintro e w2 ⟨rfl, hd2, hf2⟩; have HB2 := hide (HB1.out.trans (hf2.toBelow HB1.out.size)); have HR2 := hide (HR1.out.afr hf2 (by unfold DTy; decide)); have HD2 := hide hd2; clear hf2 hd2)
      exact ⟨.inr ⟨by simp, HD2, HR2, HB2⟩, by simp [intOf]⟩
    · have hdn := done_any (fl W0.heap.size) q (freeD d name).1 0 wr HD2.out
      have HDn := hide hdn
      have hz2 := HB2.out.size
      clear hdn
      go_upto_region 11 with fail
      go_upto_region 12 with (go_at_call 49; refine Calls.mono HDn.out ?_; rintro e w3 ⟨⟨v3, rfl, hq3⟩, hb3⟩; have HQ3 := hide hq3; obtain ⟨AE3, cE3, AW3, cW3, rfl, h1, h2⟩ := hq3; have k3 := HR2.out.keep hb3; obtain ⟨r0, r1, r2, r3, r4⟩ := five_cells k3; obtain ⟨f0, f1, f2, f3, f4⟩ := five_free k3; have l3 := k3.lt; have HR3 := hide k3; have HB3 := hide (HB2.out.trans (hb3.mono HB2.out.size)); clear hb3 k3 h1 h2)
      go_wp2_with fail
      refine bodyPost_ret (v := .tuple #[.agg #[_, _, _, _, _], .int .i64 0]) (res_d2 Tryz.results32 (pt5_bk HR3.out _ _ _ _ _) rfl rfl) rfl ?_
      have hfd : freeD d name = ((freeD d name).1, 0) := by rw [HFe.out]
      rw [hfd]
      exact ⟨⟨_, rfl, HQ3.out.pt5 HR3.out _ _ _ _ _⟩, (HB0.out.trans (HB3.out.mono HB0.out.size)).trans ((pt5_fr w3 (w.heap.size + 1) _ _ _ _ _).toBelowB (fun k hk => by subst hk; exact Nat.le_succ _) (Nat.le_trans HB0.out.size HB3.out.size))⟩
end Go.Proofs.YtmbonieeapbpoaaGreatDoor
/- Walks: world.Do at a free, at a budget, and where it refuses (printed by gen_wld.py). -/
namespace Go.Proofs.YtmbonieeapbpoaaGreatDoor
open Go.RowKit

theorem WvQ.set5 {w : World} {V : Value} {d : Dsk} {b : Int} {g : Nat} {z : Array Value} (h : WvQ w V d b) (hr : Bk w g 27 z) (a : Value) : WvQ (w.setCell ⟨g, 5, none⟩ a) V d b := by
  obtain ⟨AE, cE, AW, cW, rfl, h1, h2⟩ := h
  exact ⟨AE, cE, AW, cW, rfl, own_set h1 (p := ⟨g, 5, none⟩) (fun e => own_ne h1 hr (by decide) e.symm) a, own_set h2 (p := ⟨g, 5, none⟩) (fun e => own_ne h2 hr (by decide) e.symm) a⟩
theorem WvQ.bud {w : World} {d : Dsk} {b : Int} {AE AW : Option Addr} {cE cW : Nat} (h : WvQ w (.agg #[.int .i64 d.size, .slice AE d.exts.length cE, .slice AW d.waits.length cW, .int .i64 d.fuse, .bool d.down, .int .i64 b]) d b) (n : Int) : WvQ w (.agg #[.int .i64 d.size, .slice AE d.exts.length cE, .slice AW d.waits.length cW, .int .i64 d.fuse, .bool d.down, .int .i64 n]) d n := by
  obtain ⟨AE', cE', AW', cW', e, h1, h2⟩ := h
  cases e
  exact ⟨_, _, _, _, rfl, h1, h2⟩
set_option maxRecDepth 100000 in
set_option maxHeartbeats 4000000 in
theorem set_bud (w : World) (g : Nat) (z0 z1 z2 z3 z4 z5 : Value) (n : Int) (A : Option Addr) (c : Nat) (hk : Bk w g 27 #[z0, z1, z2, z3, z4, z5]) (hn : budgetE n = 0) :
    Calls Tryz.prog 38 #[.pointer (some ⟨g, 0, none⟩), .agg #[.int .u8 8, .string ⟨#[]⟩, .string ⟨#[]⟩, .string ⟨#[]⟩, .int .i64 n, .slice A 0 c]] w fun e w' => e = .returned (.int .i64 0) ∧ ∃ X, w' = (w.setCell ⟨g, 5, none⟩ (.int .i64 n)).alloc X := by
  have hb := fun W => wbudget_any n W
  rw [hn] at hb
  have HB := hide hb
  have hk1 := hk.alloc (.cells #[.int .u8 8, .string ⟨#[]⟩, .string ⟨#[]⟩, .string ⟨#[]⟩, .int .i64 n, .slice A 0 c] 46)
  have f5 := hk1.free 5
  have c5 : w.cell? ⟨g, 5, none⟩ = some z5 := hk.cell 5
  have hl := hk.lt
  clear hb hn hk
  go_enter Tryz.func38, Tryz.ntmps38
  go_wp2_with (go_at_call 19; refine Calls.mono (HB.out _) ?_; rintro e w1 ⟨rfl, rfl⟩)
  go_ret
  exact ⟨rfl, _, rfl⟩
set_option maxRecDepth 100000 in
set_option maxHeartbeats 8000000 in
theorem do_form (V : Value) (d : Dsk) (b : Int) (A : Option Addr) (c : Nat) (w : World) (hv : WvR w w.heap.size V d b) (hz : SzD d) (hw : worldE d b = 0) :
    Calls Tryz.prog 16 #[V, .agg #[.int .u8 0, .string ⟨#[]⟩, .string ⟨#[]⟩, .string ⟨#[]⟩, .int .i64 0, .slice A 0 c]] w fun e w' => (∃ V', e = .returned (.tuple #[V', .string ⟨#[]⟩, .int .i64 2]) ∧ WvQ w' V' d b) ∧ Below w.heap.size w w' := by
  have hck := fun W (h : Below w.heap.size w W) => wcheck_any V d b W ((hv.below h).more h.size) hz
  have how := fun W (h : Below w.heap.size w W) => wown_any V d b W ((hv.below h).more h.size) hz
  rw [hw] at hck
  have hrt := fun W => wright_any 0 ⟨#[]⟩ ⟨#[]⟩ ⟨#[]⟩ 0 [] A c W (by first | omega | decide) (by decide) (by first | omega | decide) (by first | omega | decide)
  have hus := fun W => users_any 0 ⟨#[]⟩ ⟨#[]⟩ ⟨#[]⟩ 0 [] A (0) c W
  have hr1 : rightS ⟨0, ⟨#[]⟩, ⟨#[]⟩, ⟨#[]⟩, 0, []⟩ = false := by unfold rightS hasNm hasTo hasN; rfl
  have hu1 : usersB ⟨0, ⟨#[]⟩, ⟨#[]⟩, ⟨#[]⟩, 0, []⟩ = true := rfl
  rw [hr1] at hrt
  rw [hu1] at hus
  obtain ⟨AE, cE, AW, cW, rfl, hE, hW⟩ := hv
  obtain ⟨W0, hW0⟩ : ∃ W0, W0 = ((w.alloc (.cells #[.int .i64 d.size, .slice AE d.exts.length cE, .slice AW d.waits.length cW, .int .i64 d.fuse, .bool d.down, .int .i64 b] 27)).alloc (.cells #[.int .u8 0, .string ⟨#[]⟩, .string ⟨#[]⟩, .string ⟨#[]⟩, .int .i64 0, .slice A 0 c] 46)).alloc (.cells #[.int .i64 0, .slice none 0 0, .slice none 0 0, .int .i64 0, .bool false, .int .i64 0] 27) := ⟨_, rfl⟩
  have hb0 : Below w.heap.size w W0 := by rw [hW0]; exact btrans (ba2 _ _ _) (ba1 _ _)
  have k0 : Bk W0 w.heap.size 27 #[.int .i64 d.size, .slice AE d.exts.length cE, .slice AW d.waits.length cW, .int .i64 d.fuse, .bool d.down, .int .i64 b] := by rw [hW0]; exact ((Bk.new _ _ _).alloc _).alloc _
  have k1 : Bk W0 (w.heap.size + 1) 46 #[.int .u8 0, .string ⟨#[]⟩, .string ⟨#[]⟩, .string ⟨#[]⟩, .int .i64 0, .slice A 0 c] := by rw [hW0]; exact (Bk.new1 _ _ _ _).alloc _
  have k2 : Bk W0 (w.heap.size + 1 + 1) 27 #[.int .i64 0, .slice none 0 0, .slice none 0 0, .int .i64 0, .bool false, .int .i64 0] := by rw [hW0]; exact Bk.new2 _ _ _ _ _
  have p0 := k0.cell 0
  have p1 := k0.cell 1
  have p2 := k0.cell 2
  have p3 := k0.cell 3
  have p4 := k0.cell 4
  have p5 := k0.cell 5
  have lp := k0.lt
  have HCk := hide (hck W0 hb0)
  have HOw := hide how
  have HRt := hide (show ∀ W, Calls Tryz.prog 28 #[.agg #[.int .u8 0, .string ⟨#[]⟩, .string ⟨#[]⟩, .string ⟨#[]⟩, .int .i64 0, .slice A 0 c]] W fun e w' => e = .returned (.bool false) ∧ Below W.heap.size W w' from hrt)
  have HUs := hide (show ∀ W, Calls Tryz.prog 29 #[.agg #[.int .u8 0, .string ⟨#[]⟩, .string ⟨#[]⟩, .string ⟨#[]⟩, .int .i64 0, .slice A 0 c]] W fun e w' => e = .returned (.bool true) ∧ Below W.heap.size W w' from hus)
  have HW0 := hide hW0
  have HB0 := hide hb0
  have HK0 := hide k0
  have HK1 := hide k1
  have HK2 := hide k2
  have HZ := hide hz
  clear hck how hrt hus hr1 hu1 hE hW hW0 hb0 k0 k1 k2 hz hw
  go_enter Tryz.func16, Tryz.ntmps16
  go_upto_region 5 with (first
    | (have hx := HB1; clear hx; go_at_call 27; refine Calls.mono (HOw.out _ HB1.out) ?_; rintro e w2 ⟨⟨V2, rfl, hq2⟩, hb2⟩; obtain ⟨AE2, cE2, AW2, cW2, rfl, h1, h2⟩ := hq2; have m0 := HM0.out.keep hb2; have m1 := HM1.out.keep hb2; have m2 := HM2.out.keep hb2; have x0 := m0.cell 0; have x1 := m0.cell 1; have x2 := m0.cell 2; have x3 := m0.cell 3; have x4 := m0.cell 4; have x5 := m0.cell 5; have fx0 := m0.free 0; have fx1 := m0.free 1; have fx2 := m0.free 2; have fx3 := m0.free 3; have fx4 := m0.free 4; have fx5 := m0.free 5; have lx := m0.lt; have HQ2 := hide (show WvQ w2 (.agg #[.int .i64 d.size, .slice AE2 d.exts.length cE2, .slice AW2 d.waits.length cW2, .int .i64 d.fuse, .bool d.down, .int .i64 b]) d b from ⟨AE2, cE2, AW2, cW2, rfl, h1, h2⟩); have HN0 := hide m0; have HN1 := hide m1; have HN2 := hide m2; have HB2 := hide (HB1.out.trans (hb2.mono HB1.out.size)); clear hb2 m0 m1 m2 h1 h2)
    | (go_at_call 12; rw [← HW0.out]; refine Calls.mono HCk.out ?_; rintro e w1 ⟨rfl, hb1⟩; have m0 := HK0.out.keep hb1; have y0 := m0.cell 0; have y1 := m0.cell 1; have y2 := m0.cell 2; have y3 := m0.cell 3; have y4 := m0.cell 4; have y5 := m0.cell 5; have ly := m0.lt; have HM0 := hide m0; have HM1 := hide (HK1.out.keep hb1); have HM2 := hide (HK2.out.keep hb1); have HB1 := hide (HB0.out.trans (hb1.mono HB0.out.size)); clear hb1 m0))
  obtain ⟨W3, hW3⟩ : ∃ W3, W3 = put6 w2 w.heap.size (.int .i64 d.size) (.slice AE2 d.exts.length cE2) (.slice AW2 d.waits.length cW2) (.int .i64 d.fuse) (.bool d.down) (.int .i64 b) := ⟨_, rfl⟩
  rw [show ((((((w2.setCell ⟨w.heap.size, 0, none⟩ (.int .i64 d.size)).setCell ⟨w.heap.size, 1, none⟩ (.slice AE2 d.exts.length cE2)).setCell ⟨w.heap.size, 2, none⟩ (.slice AW2 d.waits.length cW2)).setCell ⟨w.heap.size, 3, none⟩ (.int .i64 d.fuse)).setCell ⟨w.heap.size, 4, none⟩ (.bool d.down)).setCell ⟨w.heap.size, 5, none⟩ (.int .i64 b)) = W3 from hW3.symm]
  have q0 := put6_bk HN0.out (.int .i64 d.size) (.slice AE2 d.exts.length cE2) (.slice AW2 d.waits.length cW2) (.int .i64 d.fuse) (.bool d.down) (.int .i64 b)
  have q1 := HN1.out.fr (put6_fr w2 w.heap.size (.int .i64 d.size) (.slice AE2 d.exts.length cE2) (.slice AW2 d.waits.length cW2) (.int .i64 d.fuse) (.bool d.down) (.int .i64 b)) (by omega)
  have q2 := HN2.out.fr (put6_fr w2 w.heap.size (.int .i64 d.size) (.slice AE2 d.exts.length cE2) (.slice AW2 d.waits.length cW2) (.int .i64 d.fuse) (.bool d.down) (.int .i64 b)) (by omega)
  have qq := HQ2.out.put6 HN0.out (.int .i64 d.size) (.slice AE2 d.exts.length cE2) (.slice AW2 d.waits.length cW2) (.int .i64 d.fuse) (.bool d.down) (.int .i64 b)
  have qb := put6_below HB2.out (Nat.le_refl _) (.int .i64 d.size) (.slice AE2 d.exts.length cE2) (.slice AW2 d.waits.length cW2) (.int .i64 d.fuse) (.bool d.down) (.int .i64 b)
  rw [← hW3] at q0 q1 q2 qq qb
  have s0 := q1.cell 0
  have s1 := q1.cell 1
  have s2 := q1.cell 2
  have s3 := q1.cell 3
  have s4 := q1.cell 4
  have s5 := q1.cell 5
  have ls := q1.lt
  have HP0 := hide q0
  have HP1 := hide q1
  have HP2 := hide q2
  have HQ := hide qq
  have HB := hide qb
  clear q0 q1 q2 qq qb hW3 HN0 HN1 HN2 HQ2 HB2 x0 x1 x2 x3 x4 x5 fx0 fx1 fx2 fx3 fx4 fx5
  go_wp2_with (go_at_call 28; refine Calls.mono (HRt.out _) ?_; rintro e w4 ⟨rfl, hb4⟩; have m0 := HP0.out.keep hb4; have m2 := HP2.out.keep hb4; have x0 := m0.cell 0; have x1 := m0.cell 1; have x2 := m0.cell 2; have x3 := m0.cell 3; have x4 := m0.cell 4; have x5 := m0.cell 5; have r0 := m2.cell 0; have r1 := m2.cell 1; have r2 := m2.cell 2; have r3 := m2.cell 3; have r4 := m2.cell 4; have r5 := m2.cell 5; have fr0 := m2.free 0; have fr1 := m2.free 1; have fr2 := m2.free 2; have fr3 := m2.free 3; have fr4 := m2.free 4; have fr5 := m2.free 5; have l0 := m0.lt; have l2 := m2.lt; have HE2 := hide m2; have HQ := hide (HQ.out.keep hb4); have HB := hide (HB.out.trans (hb4.mono HB.out.size)); clear hb4 m0 m2)
  refine bodyPost_ret (v := .tuple #[.agg #[_, _, _, _, _, _], .string ⟨#[]⟩, .int .i64 2]) (res_w3 Tryz.results16 (put6_bk HE2.out _ _ _ _ _ _) rfl rfl rfl) rfl ?_
  exact ⟨⟨_, rfl, HQ.out.put6 HE2.out _ _ _ _ _ _⟩, put6_below HB.out (by omega) _ _ _ _ _ _⟩
set_option maxRecDepth 100000 in
set_option maxHeartbeats 8000000 in
theorem do_range (V : Value) (d : Dsk) (b : Int) (nm tx : ByteArray) (A : Option Addr) (c : Nat) (w : World) (hv : WvR w w.heap.size V d b) (hz : SzD d) (hw : worldE d b = 0) (hn : nm.size ≤ 1000000) (ht : tx.size ≤ 65536) (hm : mayB nm = false) :
    Calls Tryz.prog 16 #[V, .agg #[.int .u8 1, .string nm, .string ⟨#[]⟩, .string tx, .int .i64 0, .slice A 0 c]] w fun e w' => (∃ V', e = .returned (.tuple #[V', .string ⟨#[]⟩, .int .i64 1]) ∧ WvQ w' V' d b) ∧ Below w.heap.size w w' := by
  have hck := fun W (h : Below w.heap.size w W) => wcheck_any V d b W ((hv.below h).more h.size) hz
  have how := fun W (h : Below w.heap.size w W) => wown_any V d b W ((hv.below h).more h.size) hz
  rw [hw] at hck
  have hrt := fun W => wright_any 1 nm ⟨#[]⟩ tx 0 [] A c W (by first | omega | decide) (by decide) (by first | omega | decide) (by first | omega | decide)
  have hus := fun W => users_any 1 nm ⟨#[]⟩ tx 0 [] A (0) c W
  have hr1 : rightS ⟨1, nm, ⟨#[]⟩, tx, 0, []⟩ = true := by unfold rightS hasNm hasTo hasN; rfl
  have hu1 : usersB ⟨1, nm, ⟨#[]⟩, tx, 0, []⟩ = false := by unfold usersB; rw [if_pos (.inl rfl)]; exact hm
  rw [hr1] at hrt
  rw [hu1] at hus
  obtain ⟨AE, cE, AW, cW, rfl, hE, hW⟩ := hv
  obtain ⟨W0, hW0⟩ : ∃ W0, W0 = ((w.alloc (.cells #[.int .i64 d.size, .slice AE d.exts.length cE, .slice AW d.waits.length cW, .int .i64 d.fuse, .bool d.down, .int .i64 b] 27)).alloc (.cells #[.int .u8 1, .string nm, .string ⟨#[]⟩, .string tx, .int .i64 0, .slice A 0 c] 46)).alloc (.cells #[.int .i64 0, .slice none 0 0, .slice none 0 0, .int .i64 0, .bool false, .int .i64 0] 27) := ⟨_, rfl⟩
  have hb0 : Below w.heap.size w W0 := by rw [hW0]; exact btrans (ba2 _ _ _) (ba1 _ _)
  have k0 : Bk W0 w.heap.size 27 #[.int .i64 d.size, .slice AE d.exts.length cE, .slice AW d.waits.length cW, .int .i64 d.fuse, .bool d.down, .int .i64 b] := by rw [hW0]; exact ((Bk.new _ _ _).alloc _).alloc _
  have k1 : Bk W0 (w.heap.size + 1) 46 #[.int .u8 1, .string nm, .string ⟨#[]⟩, .string tx, .int .i64 0, .slice A 0 c] := by rw [hW0]; exact (Bk.new1 _ _ _ _).alloc _
  have k2 : Bk W0 (w.heap.size + 1 + 1) 27 #[.int .i64 0, .slice none 0 0, .slice none 0 0, .int .i64 0, .bool false, .int .i64 0] := by rw [hW0]; exact Bk.new2 _ _ _ _ _
  have p0 := k0.cell 0
  have p1 := k0.cell 1
  have p2 := k0.cell 2
  have p3 := k0.cell 3
  have p4 := k0.cell 4
  have p5 := k0.cell 5
  have lp := k0.lt
  have HCk := hide (hck W0 hb0)
  have HOw := hide how
  have HRt := hide (show ∀ W, Calls Tryz.prog 28 #[.agg #[.int .u8 1, .string nm, .string ⟨#[]⟩, .string tx, .int .i64 0, .slice A 0 c]] W fun e w' => e = .returned (.bool true) ∧ Below W.heap.size W w' from hrt)
  have HUs := hide (show ∀ W, Calls Tryz.prog 29 #[.agg #[.int .u8 1, .string nm, .string ⟨#[]⟩, .string tx, .int .i64 0, .slice A 0 c]] W fun e w' => e = .returned (.bool false) ∧ Below W.heap.size W w' from hus)
  have HW0 := hide hW0
  have HB0 := hide hb0
  have HK0 := hide k0
  have HK1 := hide k1
  have HK2 := hide k2
  have HZ := hide hz
  clear hck how hrt hus hr1 hu1 hE hW hW0 hb0 k0 k1 k2 hz hw
  go_enter Tryz.func16, Tryz.ntmps16
  go_upto_region 5 with (first
    | (have hx := HB1; clear hx; go_at_call 27; refine Calls.mono (HOw.out _ HB1.out) ?_; rintro e w2 ⟨⟨V2, rfl, hq2⟩, hb2⟩; obtain ⟨AE2, cE2, AW2, cW2, rfl, h1, h2⟩ := hq2; have m0 := HM0.out.keep hb2; have m1 := HM1.out.keep hb2; have m2 := HM2.out.keep hb2; have x0 := m0.cell 0; have x1 := m0.cell 1; have x2 := m0.cell 2; have x3 := m0.cell 3; have x4 := m0.cell 4; have x5 := m0.cell 5; have fx0 := m0.free 0; have fx1 := m0.free 1; have fx2 := m0.free 2; have fx3 := m0.free 3; have fx4 := m0.free 4; have fx5 := m0.free 5; have lx := m0.lt; have HQ2 := hide (show WvQ w2 (.agg #[.int .i64 d.size, .slice AE2 d.exts.length cE2, .slice AW2 d.waits.length cW2, .int .i64 d.fuse, .bool d.down, .int .i64 b]) d b from ⟨AE2, cE2, AW2, cW2, rfl, h1, h2⟩); have HN0 := hide m0; have HN1 := hide m1; have HN2 := hide m2; have HB2 := hide (HB1.out.trans (hb2.mono HB1.out.size)); clear hb2 m0 m1 m2 h1 h2)
    | (go_at_call 12; rw [← HW0.out]; refine Calls.mono HCk.out ?_; rintro e w1 ⟨rfl, hb1⟩; have m0 := HK0.out.keep hb1; have y0 := m0.cell 0; have y1 := m0.cell 1; have y2 := m0.cell 2; have y3 := m0.cell 3; have y4 := m0.cell 4; have y5 := m0.cell 5; have ly := m0.lt; have HM0 := hide m0; have HM1 := hide (HK1.out.keep hb1); have HM2 := hide (HK2.out.keep hb1); have HB1 := hide (HB0.out.trans (hb1.mono HB0.out.size)); clear hb1 m0))
  obtain ⟨W3, hW3⟩ : ∃ W3, W3 = put6 w2 w.heap.size (.int .i64 d.size) (.slice AE2 d.exts.length cE2) (.slice AW2 d.waits.length cW2) (.int .i64 d.fuse) (.bool d.down) (.int .i64 b) := ⟨_, rfl⟩
  rw [show ((((((w2.setCell ⟨w.heap.size, 0, none⟩ (.int .i64 d.size)).setCell ⟨w.heap.size, 1, none⟩ (.slice AE2 d.exts.length cE2)).setCell ⟨w.heap.size, 2, none⟩ (.slice AW2 d.waits.length cW2)).setCell ⟨w.heap.size, 3, none⟩ (.int .i64 d.fuse)).setCell ⟨w.heap.size, 4, none⟩ (.bool d.down)).setCell ⟨w.heap.size, 5, none⟩ (.int .i64 b)) = W3 from hW3.symm]
  have q0 := put6_bk HN0.out (.int .i64 d.size) (.slice AE2 d.exts.length cE2) (.slice AW2 d.waits.length cW2) (.int .i64 d.fuse) (.bool d.down) (.int .i64 b)
  have q1 := HN1.out.fr (put6_fr w2 w.heap.size (.int .i64 d.size) (.slice AE2 d.exts.length cE2) (.slice AW2 d.waits.length cW2) (.int .i64 d.fuse) (.bool d.down) (.int .i64 b)) (by omega)
  have q2 := HN2.out.fr (put6_fr w2 w.heap.size (.int .i64 d.size) (.slice AE2 d.exts.length cE2) (.slice AW2 d.waits.length cW2) (.int .i64 d.fuse) (.bool d.down) (.int .i64 b)) (by omega)
  have qq := HQ2.out.put6 HN0.out (.int .i64 d.size) (.slice AE2 d.exts.length cE2) (.slice AW2 d.waits.length cW2) (.int .i64 d.fuse) (.bool d.down) (.int .i64 b)
  have qb := put6_below HB2.out (Nat.le_refl _) (.int .i64 d.size) (.slice AE2 d.exts.length cE2) (.slice AW2 d.waits.length cW2) (.int .i64 d.fuse) (.bool d.down) (.int .i64 b)
  rw [← hW3] at q0 q1 q2 qq qb
  have s0 := q1.cell 0
  have s1 := q1.cell 1
  have s2 := q1.cell 2
  have s3 := q1.cell 3
  have s4 := q1.cell 4
  have s5 := q1.cell 5
  have ls := q1.lt
  have HP0 := hide q0
  have HP1 := hide q1
  have HP2 := hide q2
  have HQ := hide qq
  have HB := hide qb
  clear q0 q1 q2 qq qb hW3 HN0 HN1 HN2 HQ2 HB2 x0 x1 x2 x3 x4 x5 fx0 fx1 fx2 fx3 fx4 fx5
  go_wp2_with (first
    | (go_at_call 28; refine Calls.mono (HRt.out _) ?_; rintro e w4 ⟨rfl, hb4⟩; have m1 := HP1.out.keep hb4; have s0 := m1.cell 0; have s1 := m1.cell 1; have s2 := m1.cell 2; have s3 := m1.cell 3; have s4 := m1.cell 4; have s5 := m1.cell 5; have ls := m1.lt; have HP0 := hide (HP0.out.keep hb4); have HP1 := hide m1; have HP2 := hide (HP2.out.keep hb4); have HQ := hide (HQ.out.keep hb4); have HB := hide (HB.out.trans (hb4.mono HB.out.size)); clear hb4 m1)
    | (go_at_call 29; refine Calls.mono (HUs.out _) ?_; rintro e w5 ⟨rfl, hb5⟩; have m0 := HP0.out.keep hb5; have m2 := HP2.out.keep hb5; have x0 := m0.cell 0; have x1 := m0.cell 1; have x2 := m0.cell 2; have x3 := m0.cell 3; have x4 := m0.cell 4; have x5 := m0.cell 5; have r0 := m2.cell 0; have r1 := m2.cell 1; have r2 := m2.cell 2; have r3 := m2.cell 3; have r4 := m2.cell 4; have r5 := m2.cell 5; have fr0 := m2.free 0; have fr1 := m2.free 1; have fr2 := m2.free 2; have fr3 := m2.free 3; have fr4 := m2.free 4; have fr5 := m2.free 5; have l0 := m0.lt; have l2 := m2.lt; have HE2 := hide m2; have HQ := hide (HQ.out.keep hb5); have HB := hide (HB.out.trans (hb5.mono HB.out.size)); clear hb5 m0 m2))
  refine bodyPost_ret (v := .tuple #[.agg #[_, _, _, _, _, _], .string ⟨#[]⟩, .int .i64 1]) (res_w3 Tryz.results16 (put6_bk HE2.out _ _ _ _ _ _) rfl rfl rfl) rfl ?_
  exact ⟨⟨_, rfl, HQ.out.put6 HE2.out _ _ _ _ _ _⟩, put6_below HB.out (by omega) _ _ _ _ _ _⟩
set_option maxRecDepth 100000 in
set_option maxHeartbeats 8000000 in
theorem do_free (V : Value) (d : Dsk) (b : Int) (nm : ByteArray) (rr : Nat) (A : Option Addr) (c : Nat) (w : World) (hv : WvR w w.heap.size V d b) (hz : SzD d) (hw : worldE d b = 0) (hn : nm.size ≤ 1000000) (hm : mayB nm = true) (fo : openD d = (d, 0)) (f0 : d.waits = []) (fi : findIs d.exts nm = true) (fn : d.exts.length = findI d.exts nm + 1 + (rr + 1)) :
    Calls Tryz.prog 16 #[V, .agg #[.int .u8 3, .string nm, .string ⟨#[]⟩, .string ⟨#[]⟩, .int .i64 0, .slice A 0 c]] w fun e w' => (∃ V', e = .returned (.tuple #[V', .string ⟨#[]⟩, .int .i64 0]) ∧ WvQ w' V' (freeD d nm).1 b) ∧ Below w.heap.size w w' := by
  have HFo := hide fo
  have HF0 := hide f0
  have HFi := hide fi
  have HFn := hide fn
  clear fo f0 fi fn
  have hck := fun W (h : Below w.heap.size w W) => wcheck_any V d b W ((hv.below h).more h.size) hz
  have how := fun W (h : Below w.heap.size w W) => wown_any V d b W ((hv.below h).more h.size) hz
  rw [hw] at hck
  have hrt := fun W => wright_any 3 nm ⟨#[]⟩ ⟨#[]⟩ 0 [] A c W (by first | omega | decide) (by decide) (by first | omega | decide) (by first | omega | decide)
  have hus := fun W => users_any 3 nm ⟨#[]⟩ ⟨#[]⟩ 0 [] A (0) c W
  have hr1 : rightS ⟨3, nm, ⟨#[]⟩, ⟨#[]⟩, 0, []⟩ = true := by unfold rightS hasNm hasTo hasN; rfl
  have hu1 : usersB ⟨3, nm, ⟨#[]⟩, ⟨#[]⟩, 0, []⟩ = true := by unfold usersB; rw [if_pos (.inr rfl)]; exact hm
  rw [hr1] at hrt
  rw [hu1] at hus
  obtain ⟨AE, cE, AW, cW, rfl, hE, hW⟩ := hv
  obtain ⟨W0, hW0⟩ : ∃ W0, W0 = ((w.alloc (.cells #[.int .i64 d.size, .slice AE d.exts.length cE, .slice AW d.waits.length cW, .int .i64 d.fuse, .bool d.down, .int .i64 b] 27)).alloc (.cells #[.int .u8 3, .string nm, .string ⟨#[]⟩, .string ⟨#[]⟩, .int .i64 0, .slice A 0 c] 46)).alloc (.cells #[.int .i64 0, .slice none 0 0, .slice none 0 0, .int .i64 0, .bool false, .int .i64 0] 27) := ⟨_, rfl⟩
  have hb0 : Below w.heap.size w W0 := by rw [hW0]; exact btrans (ba2 _ _ _) (ba1 _ _)
  have k0 : Bk W0 w.heap.size 27 #[.int .i64 d.size, .slice AE d.exts.length cE, .slice AW d.waits.length cW, .int .i64 d.fuse, .bool d.down, .int .i64 b] := by rw [hW0]; exact ((Bk.new _ _ _).alloc _).alloc _
  have k1 : Bk W0 (w.heap.size + 1) 46 #[.int .u8 3, .string nm, .string ⟨#[]⟩, .string ⟨#[]⟩, .int .i64 0, .slice A 0 c] := by rw [hW0]; exact (Bk.new1 _ _ _ _).alloc _
  have k2 : Bk W0 (w.heap.size + 1 + 1) 27 #[.int .i64 0, .slice none 0 0, .slice none 0 0, .int .i64 0, .bool false, .int .i64 0] := by rw [hW0]; exact Bk.new2 _ _ _ _ _
  have p0 := k0.cell 0
  have p1 := k0.cell 1
  have p2 := k0.cell 2
  have p3 := k0.cell 3
  have p4 := k0.cell 4
  have p5 := k0.cell 5
  have lp := k0.lt
  have HCk := hide (hck W0 hb0)
  have HOw := hide how
  have HRt := hide (show ∀ W, Calls Tryz.prog 28 #[.agg #[.int .u8 3, .string nm, .string ⟨#[]⟩, .string ⟨#[]⟩, .int .i64 0, .slice A 0 c]] W fun e w' => e = .returned (.bool true) ∧ Below W.heap.size W w' from hrt)
  have HUs := hide (show ∀ W, Calls Tryz.prog 29 #[.agg #[.int .u8 3, .string nm, .string ⟨#[]⟩, .string ⟨#[]⟩, .int .i64 0, .slice A 0 c]] W fun e w' => e = .returned (.bool true) ∧ Below W.heap.size W w' from hus)
  have HW0 := hide hW0
  have HB0 := hide hb0
  have HK0 := hide k0
  have HK1 := hide k1
  have HK2 := hide k2
  have HZ := hide hz
  clear hck how hrt hus hr1 hu1 hE hW hW0 hb0 k0 k1 k2 hz hw
  go_enter Tryz.func16, Tryz.ntmps16
  go_upto_region 5 with (first
    | (have hx := HB1; clear hx; go_at_call 27; refine Calls.mono (HOw.out _ HB1.out) ?_; rintro e w2 ⟨⟨V2, rfl, hq2⟩, hb2⟩; obtain ⟨AE2, cE2, AW2, cW2, rfl, h1, h2⟩ := hq2; have m0 := HM0.out.keep hb2; have m1 := HM1.out.keep hb2; have m2 := HM2.out.keep hb2; have x0 := m0.cell 0; have x1 := m0.cell 1; have x2 := m0.cell 2; have x3 := m0.cell 3; have x4 := m0.cell 4; have x5 := m0.cell 5; have fx0 := m0.free 0; have fx1 := m0.free 1; have fx2 := m0.free 2; have fx3 := m0.free 3; have fx4 := m0.free 4; have fx5 := m0.free 5; have lx := m0.lt; have HQ2 := hide (show WvQ w2 (.agg #[.int .i64 d.size, .slice AE2 d.exts.length cE2, .slice AW2 d.waits.length cW2, .int .i64 d.fuse, .bool d.down, .int .i64 b]) d b from ⟨AE2, cE2, AW2, cW2, rfl, h1, h2⟩); have HN0 := hide m0; have HN1 := hide m1; have HN2 := hide m2; have HB2 := hide (HB1.out.trans (hb2.mono HB1.out.size)); clear hb2 m0 m1 m2 h1 h2)
    | (go_at_call 12; rw [← HW0.out]; refine Calls.mono HCk.out ?_; rintro e w1 ⟨rfl, hb1⟩; have m0 := HK0.out.keep hb1; have y0 := m0.cell 0; have y1 := m0.cell 1; have y2 := m0.cell 2; have y3 := m0.cell 3; have y4 := m0.cell 4; have y5 := m0.cell 5; have ly := m0.lt; have HM0 := hide m0; have HM1 := hide (HK1.out.keep hb1); have HM2 := hide (HK2.out.keep hb1); have HB1 := hide (HB0.out.trans (hb1.mono HB0.out.size)); clear hb1 m0))
  obtain ⟨W3, hW3⟩ : ∃ W3, W3 = put6 w2 w.heap.size (.int .i64 d.size) (.slice AE2 d.exts.length cE2) (.slice AW2 d.waits.length cW2) (.int .i64 d.fuse) (.bool d.down) (.int .i64 b) := ⟨_, rfl⟩
  rw [show ((((((w2.setCell ⟨w.heap.size, 0, none⟩ (.int .i64 d.size)).setCell ⟨w.heap.size, 1, none⟩ (.slice AE2 d.exts.length cE2)).setCell ⟨w.heap.size, 2, none⟩ (.slice AW2 d.waits.length cW2)).setCell ⟨w.heap.size, 3, none⟩ (.int .i64 d.fuse)).setCell ⟨w.heap.size, 4, none⟩ (.bool d.down)).setCell ⟨w.heap.size, 5, none⟩ (.int .i64 b)) = W3 from hW3.symm]
  have q0 := put6_bk HN0.out (.int .i64 d.size) (.slice AE2 d.exts.length cE2) (.slice AW2 d.waits.length cW2) (.int .i64 d.fuse) (.bool d.down) (.int .i64 b)
  have q1 := HN1.out.fr (put6_fr w2 w.heap.size (.int .i64 d.size) (.slice AE2 d.exts.length cE2) (.slice AW2 d.waits.length cW2) (.int .i64 d.fuse) (.bool d.down) (.int .i64 b)) (by omega)
  have q2 := HN2.out.fr (put6_fr w2 w.heap.size (.int .i64 d.size) (.slice AE2 d.exts.length cE2) (.slice AW2 d.waits.length cW2) (.int .i64 d.fuse) (.bool d.down) (.int .i64 b)) (by omega)
  have qq := HQ2.out.put6 HN0.out (.int .i64 d.size) (.slice AE2 d.exts.length cE2) (.slice AW2 d.waits.length cW2) (.int .i64 d.fuse) (.bool d.down) (.int .i64 b)
  have qb := put6_below HB2.out (Nat.le_refl _) (.int .i64 d.size) (.slice AE2 d.exts.length cE2) (.slice AW2 d.waits.length cW2) (.int .i64 d.fuse) (.bool d.down) (.int .i64 b)
  rw [← hW3] at q0 q1 q2 qq qb
  have s0 := q1.cell 0
  have s1 := q1.cell 1
  have s2 := q1.cell 2
  have s3 := q1.cell 3
  have s4 := q1.cell 4
  have s5 := q1.cell 5
  have ls := q1.lt
  have HP0 := hide q0
  have HP1 := hide q1
  have HP2 := hide q2
  have HQ := hide qq
  have HB := hide qb
  clear q0 q1 q2 qq qb hW3 HN0 HN1 HN2 HQ2 HB2 x0 x1 x2 x3 x4 x5 fx0 fx1 fx2 fx3 fx4 fx5
  go_upto_region 11 with (first
    | (go_at_call 28; refine Calls.mono (HRt.out _) ?_; rintro e w4 ⟨rfl, hb4⟩; have m1 := HP1.out.keep hb4; have s0 := m1.cell 0; have s1 := m1.cell 1; have s2 := m1.cell 2; have s3 := m1.cell 3; have s4 := m1.cell 4; have s5 := m1.cell 5; have ls := m1.lt; have HP0 := hide (HP0.out.keep hb4); have HP1 := hide m1; have HP2 := hide (HP2.out.keep hb4); have HQ := hide (HQ.out.keep hb4); have HB := hide (HB.out.trans (hb4.mono HB.out.size)); clear hb4 m1)
    | (go_at_call 29; refine Calls.mono (HUs.out _) ?_; rintro e w5 ⟨rfl, hb5⟩; have m0 := HP0.out.keep hb5; have m1 := HP1.out.keep hb5; have x0 := m0.cell 0; have x1 := m0.cell 1; have x2 := m0.cell 2; have x3 := m0.cell 3; have x4 := m0.cell 4; have x5 := m0.cell 5; have s0 := m1.cell 0; have s1 := m1.cell 1; have s2 := m1.cell 2; have s3 := m1.cell 3; have s4 := m1.cell 4; have s5 := m1.cell 5; have ls := m1.lt; have lx := m0.lt; have HP0 := hide m0; have HP1 := hide m1; have HP2 := hide (HP2.out.keep hb5); have HQ := hide (HQ.out.keep hb5); have HB := hide (HB.out.trans (hb5.mono HB.out.size)); clear hb5 m0 m1))
  obtain ⟨W6, hW6⟩ : ∃ W6, W6 = w5.alloc (.cells #[.int .i64 d.size, .slice AE2 d.exts.length cE2, .slice AW2 d.waits.length cW2, .int .i64 d.fuse, .bool d.down] 25) := ⟨_, rfl⟩
  rw [← hW6]
  have hb6 : Below w5.heap.size w5 W6 := by rw [hW6]; exact ba1 _ _
  have k6 : Bk W6 w5.heap.size 25 #[.int .i64 d.size, .slice AE2 d.exts.length cE2, .slice AW2 d.waits.length cW2, .int .i64 d.fuse, .bool d.down] := by rw [hW6]; exact Bk.new _ _ _
  have q0 := HP0.out.keep hb6
  have q1 := HP1.out.keep hb6
  have q2 := HP2.out.keep hb6
  have qq := HQ.out.keep hb6
  have hdv : Dv W6 W6.heap.size (.agg #[.int .i64 d.size, .slice AE2 d.exts.length cE2, .slice AW2 d.waits.length cW2, .int .i64 d.fuse, .bool d.down]) d := by
    obtain ⟨a1, a2, a3, a4, e, h1, h2⟩ := qq.r
    cases e
    exact ⟨_, _, _, _, rfl, h1, h2⟩
  have s0 := q1.cell 0
  have s1 := q1.cell 1
  have s2 := q1.cell 2
  have s3 := q1.cell 3
  have s4 := q1.cell 4
  have s5 := q1.cell 5
  have x0 := q0.cell 0
  have x1 := q0.cell 1
  have x2 := q0.cell 2
  have x3 := q0.cell 3
  have x4 := q0.cell 4
  have x5 := q0.cell 5
  have fx0 := q0.free 0
  have fx1 := q0.free 1
  have fx2 := q0.free 2
  have fx3 := q0.free 3
  have fx4 := q0.free 4
  have fx5 := q0.free 5
  have r0 := q2.cell 0
  have r1 := q2.cell 1
  have r2 := q2.cell 2
  have r3 := q2.cell 3
  have r4 := q2.cell 4
  have r5 := q2.cell 5
  have fr0 := q2.free 0
  have fr1 := q2.free 1
  have fr2 := q2.free 2
  have fr3 := q2.free 3
  have fr4 := q2.free 4
  have fr5 := q2.free 5
  have t0 := k6.cell 0
  have t1 := k6.cell 1
  have t2 := k6.cell 2
  have t3 := k6.cell 3
  have t4 := k6.cell 4
  have l0 := q0.lt
  have l1 := q1.lt
  have l2 := q2.lt
  have l6 := k6.lt
  have HDv := hide hdv
  have HP0 := hide q0
  have HP1 := hide q1
  have HP2 := hide q2
  have HQ := hide qq
  have HB := hide (HB.out.trans (hb6.mono HB.out.size))
  clear q0 q1 q2 qq hdv k6 hb6 hW6
  obtain ⟨W7, hW7⟩ : ∃ W7, W7 = W6.alloc (.cells #[.string nm] 9) := ⟨_, rfl⟩
  have hb7 : Below W6.heap.size W6 W7 := by rw [hW7]; exact ba1 _ _
  have ka : Bk W7 W6.heap.size 9 #[.string nm] := by rw [hW7]; exact Bk.new _ _ _
  have hfr := free1_any _ d nm rr W6.heap.size W7 ((HDv.out.below hb7).more hb7.size) HZ.out HFo.out HF0.out HFi.out HFn.out (ka.cell 0) ka.lt
  obtain ⟨d7, hd7⟩ : ∃ d7, d7 = (freeD d nm).1 := ⟨_, rfl⟩
  have HFz := hide (show (freeD d nm).2 = 0 by rw [freeD_eq HFi.out HF0.out])
  have HW7 := hide hW7
  have HP0 := hide (HP0.out.keep hb7)
  have HP2 := hide (HP2.out.keep hb7)
  have HB := hide (HB.out.trans (hb7.mono HB.out.size))
  have HFr := hide hfr
  have HD7 := hide hd7
  clear hfr hW7 hb7 ka hd7
  go_upto_region 29 with (go_at_call 32; rw [← HW7.out]; refine Calls.mono HFr.out ?_; rintro e w7 ⟨⟨v7, rfl, hq7⟩, hb7⟩; rw [HFz.out]; rw [← HD7.out] at hq7; obtain ⟨AE7, cE7, AW7, cW7, rfl, h1, h2⟩ := hq7; have q0 := HP0.out.keep hb7; have q2 := HP2.out.keep hb7; have x0 := q0.cell 0; have x1 := q0.cell 1; have x2 := q0.cell 2; have x3 := q0.cell 3; have x4 := q0.cell 4; have x5 := q0.cell 5; have fx0 := q0.free 0; have fx1 := q0.free 1; have fx2 := q0.free 2; have fx3 := q0.free 3; have fx4 := q0.free 4; have fx5 := q0.free 5; have l0 := q0.lt; have H1 := hide h1; have H2 := hide h2; have HP0 := hide q0; have HP2 := hide q2; have HB := hide (HB.out.trans (hb7.mono HB.out.size)); clear q0 q2 hb7 h1 h2)
  obtain ⟨W8, hW8⟩ : ∃ W8, W8 = pt5 w7 w.heap.size (.int .i64 d7.size) (.slice AE7 d7.exts.length cE7) (.slice AW7 d7.waits.length cW7) (.int .i64 d7.fuse) (.bool d7.down) := ⟨_, rfl⟩
  rw [show (((((w7.setCell ⟨w.heap.size, 0, none⟩ (.int .i64 d7.size)).setCell ⟨w.heap.size, 1, none⟩ (.slice AE7 d7.exts.length cE7)).setCell ⟨w.heap.size, 2, none⟩ (.slice AW7 d7.waits.length cW7)).setCell ⟨w.heap.size, 3, none⟩ (.int .i64 d7.fuse)).setCell ⟨w.heap.size, 4, none⟩ (.bool d7.down)) = W8 from hW8.symm]
  have q0 := pt5_bk6 HP0.out (.int .i64 d7.size) (.slice AE7 d7.exts.length cE7) (.slice AW7 d7.waits.length cW7) (.int .i64 d7.fuse) (.bool d7.down)
  have q2 := HP2.out.fr (pt5_fr w7 w.heap.size (.int .i64 d7.size) (.slice AE7 d7.exts.length cE7) (.slice AW7 d7.waits.length cW7) (.int .i64 d7.fuse) (.bool d7.down)) (by omega)
  have qq : WvQ (pt5 w7 w.heap.size (.int .i64 d7.size) (.slice AE7 d7.exts.length cE7) (.slice AW7 d7.waits.length cW7) (.int .i64 d7.fuse) (.bool d7.down)) (.agg #[.int .i64 d7.size, .slice AE7 d7.exts.length cE7, .slice AW7 d7.waits.length cW7, .int .i64 d7.fuse, .bool d7.down, .int .i64 b]) d7 b := ⟨AE7, cE7, AW7, cW7, rfl, own_pt5 H1.out (fun e => own_ne H1.out HP0.out (by decide) e.symm) _ _ _ _ _, own_pt5 H2.out (fun e => own_ne H2.out HP0.out (by decide) e.symm) _ _ _ _ _⟩
  have qb : Below w.heap.size w (pt5 w7 w.heap.size (.int .i64 d7.size) (.slice AE7 d7.exts.length cE7) (.slice AW7 d7.waits.length cW7) (.int .i64 d7.fuse) (.bool d7.down)) := HB.out.trans ((pt5_fr w7 w.heap.size _ _ _ _ _).toBelowB (fun k hk => by subst hk; exact Nat.le_refl _) HB.out.size)
  rw [← hW8] at q0 q2 qq qb
  clear hW8 x0 x1 x2 x3 x4 x5 fx0 fx1 fx2 fx3 fx4 fx5 r0 r1 r2 r3 r4 r5 fr0 fr1 fr2 fr3 fr4 fr5 t0 t1 t2 t3 t4 s0 s1 s2 s3 s4 s5
  have x0 := q0.cell 0
  have x1 := q0.cell 1
  have x2 := q0.cell 2
  have x3 := q0.cell 3
  have x4 := q0.cell 4
  have x5 := q0.cell 5
  have r0 := q2.cell 0
  have r1 := q2.cell 1
  have r2 := q2.cell 2
  have r3 := q2.cell 3
  have r4 := q2.cell 4
  have r5 := q2.cell 5
  have fr0 := q2.free 0
  have fr1 := q2.free 1
  have fr2 := q2.free 2
  have fr3 := q2.free 3
  have fr4 := q2.free 4
  have fr5 := q2.free 5
  have l0 := q0.lt
  have l2 := q2.lt
  have HE2 := hide q2
  have HQ := hide qq
  have HB := hide qb
  clear q0 q2 qq qb HP0 HP1 HP2
  go_wp2_with fail
  refine bodyPost_ret (v := .tuple #[.agg #[_, _, _, _, _, _], .string ⟨#[]⟩, .int .i64 0]) (res_w3 Tryz.results16 (put6_bk HE2.out _ _ _ _ _ _) rfl rfl rfl) rfl ?_
  rw [← HD7.out]
  exact ⟨⟨_, rfl, HQ.out.put6 HE2.out _ _ _ _ _ _⟩, put6_below HB.out (by omega) _ _ _ _ _ _⟩
set_option maxRecDepth 100000 in
set_option maxHeartbeats 8000000 in
theorem do_budget (V : Value) (d : Dsk) (b : Int) (n : Int) (A : Option Addr) (c : Nat) (w : World) (hv : WvR w w.heap.size V d b) (hz : SzD d) (hw : worldE d b = 0) (hbn : budgetE n = 0) :
    Calls Tryz.prog 16 #[V, .agg #[.int .u8 8, .string ⟨#[]⟩, .string ⟨#[]⟩, .string ⟨#[]⟩, .int .i64 n, .slice A 0 c]] w fun e w' => (∃ V', e = .returned (.tuple #[V', .string ⟨#[]⟩, .int .i64 0]) ∧ WvQ w' V' d n) ∧ Below w.heap.size w w' := by
  have hck := fun W (h : Below w.heap.size w W) => wcheck_any V d b W ((hv.below h).more h.size) hz
  have how := fun W (h : Below w.heap.size w W) => wown_any V d b W ((hv.below h).more h.size) hz
  rw [hw] at hck
  have hrt := fun W => wright_any 8 ⟨#[]⟩ ⟨#[]⟩ ⟨#[]⟩ n [] A c W (by first | omega | decide) (by decide) (by first | omega | decide) (by first | omega | decide)
  have hus := fun W => users_any 8 ⟨#[]⟩ ⟨#[]⟩ ⟨#[]⟩ n [] A (0) c W
  have hr1 : rightS ⟨8, ⟨#[]⟩, ⟨#[]⟩, ⟨#[]⟩, n, []⟩ = true := by unfold rightS hasNm hasTo hasN; rfl
  have hu1 : usersB ⟨8, ⟨#[]⟩, ⟨#[]⟩, ⟨#[]⟩, n, []⟩ = true := rfl
  rw [hr1] at hrt
  rw [hu1] at hus
  obtain ⟨AE, cE, AW, cW, rfl, hE, hW⟩ := hv
  obtain ⟨W0, hW0⟩ : ∃ W0, W0 = ((w.alloc (.cells #[.int .i64 d.size, .slice AE d.exts.length cE, .slice AW d.waits.length cW, .int .i64 d.fuse, .bool d.down, .int .i64 b] 27)).alloc (.cells #[.int .u8 8, .string ⟨#[]⟩, .string ⟨#[]⟩, .string ⟨#[]⟩, .int .i64 n, .slice A 0 c] 46)).alloc (.cells #[.int .i64 0, .slice none 0 0, .slice none 0 0, .int .i64 0, .bool false, .int .i64 0] 27) := ⟨_, rfl⟩
  have hb0 : Below w.heap.size w W0 := by rw [hW0]; exact btrans (ba2 _ _ _) (ba1 _ _)
  have k0 : Bk W0 w.heap.size 27 #[.int .i64 d.size, .slice AE d.exts.length cE, .slice AW d.waits.length cW, .int .i64 d.fuse, .bool d.down, .int .i64 b] := by rw [hW0]; exact ((Bk.new _ _ _).alloc _).alloc _
  have k1 : Bk W0 (w.heap.size + 1) 46 #[.int .u8 8, .string ⟨#[]⟩, .string ⟨#[]⟩, .string ⟨#[]⟩, .int .i64 n, .slice A 0 c] := by rw [hW0]; exact (Bk.new1 _ _ _ _).alloc _
  have k2 : Bk W0 (w.heap.size + 1 + 1) 27 #[.int .i64 0, .slice none 0 0, .slice none 0 0, .int .i64 0, .bool false, .int .i64 0] := by rw [hW0]; exact Bk.new2 _ _ _ _ _
  have p0 := k0.cell 0
  have p1 := k0.cell 1
  have p2 := k0.cell 2
  have p3 := k0.cell 3
  have p4 := k0.cell 4
  have p5 := k0.cell 5
  have lp := k0.lt
  have HCk := hide (hck W0 hb0)
  have HOw := hide how
  have HRt := hide (show ∀ W, Calls Tryz.prog 28 #[.agg #[.int .u8 8, .string ⟨#[]⟩, .string ⟨#[]⟩, .string ⟨#[]⟩, .int .i64 n, .slice A 0 c]] W fun e w' => e = .returned (.bool true) ∧ Below W.heap.size W w' from hrt)
  have HUs := hide (show ∀ W, Calls Tryz.prog 29 #[.agg #[.int .u8 8, .string ⟨#[]⟩, .string ⟨#[]⟩, .string ⟨#[]⟩, .int .i64 n, .slice A 0 c]] W fun e w' => e = .returned (.bool true) ∧ Below W.heap.size W w' from hus)
  have HW0 := hide hW0
  have HB0 := hide hb0
  have HK0 := hide k0
  have HK1 := hide k1
  have HK2 := hide k2
  have HZ := hide hz
  clear hck how hrt hus hr1 hu1 hE hW hW0 hb0 k0 k1 k2 hz hw
  go_enter Tryz.func16, Tryz.ntmps16
  go_upto_region 5 with (first
    | (have hx := HB1; clear hx; go_at_call 27; refine Calls.mono (HOw.out _ HB1.out) ?_; rintro e w2 ⟨⟨V2, rfl, hq2⟩, hb2⟩; obtain ⟨AE2, cE2, AW2, cW2, rfl, h1, h2⟩ := hq2; have m0 := HM0.out.keep hb2; have m1 := HM1.out.keep hb2; have m2 := HM2.out.keep hb2; have x0 := m0.cell 0; have x1 := m0.cell 1; have x2 := m0.cell 2; have x3 := m0.cell 3; have x4 := m0.cell 4; have x5 := m0.cell 5; have fx0 := m0.free 0; have fx1 := m0.free 1; have fx2 := m0.free 2; have fx3 := m0.free 3; have fx4 := m0.free 4; have fx5 := m0.free 5; have lx := m0.lt; have HQ2 := hide (show WvQ w2 (.agg #[.int .i64 d.size, .slice AE2 d.exts.length cE2, .slice AW2 d.waits.length cW2, .int .i64 d.fuse, .bool d.down, .int .i64 b]) d b from ⟨AE2, cE2, AW2, cW2, rfl, h1, h2⟩); have HN0 := hide m0; have HN1 := hide m1; have HN2 := hide m2; have HB2 := hide (HB1.out.trans (hb2.mono HB1.out.size)); clear hb2 m0 m1 m2 h1 h2)
    | (go_at_call 12; rw [← HW0.out]; refine Calls.mono HCk.out ?_; rintro e w1 ⟨rfl, hb1⟩; have m0 := HK0.out.keep hb1; have y0 := m0.cell 0; have y1 := m0.cell 1; have y2 := m0.cell 2; have y3 := m0.cell 3; have y4 := m0.cell 4; have y5 := m0.cell 5; have ly := m0.lt; have HM0 := hide m0; have HM1 := hide (HK1.out.keep hb1); have HM2 := hide (HK2.out.keep hb1); have HB1 := hide (HB0.out.trans (hb1.mono HB0.out.size)); clear hb1 m0))
  obtain ⟨W3, hW3⟩ : ∃ W3, W3 = put6 w2 w.heap.size (.int .i64 d.size) (.slice AE2 d.exts.length cE2) (.slice AW2 d.waits.length cW2) (.int .i64 d.fuse) (.bool d.down) (.int .i64 b) := ⟨_, rfl⟩
  rw [show ((((((w2.setCell ⟨w.heap.size, 0, none⟩ (.int .i64 d.size)).setCell ⟨w.heap.size, 1, none⟩ (.slice AE2 d.exts.length cE2)).setCell ⟨w.heap.size, 2, none⟩ (.slice AW2 d.waits.length cW2)).setCell ⟨w.heap.size, 3, none⟩ (.int .i64 d.fuse)).setCell ⟨w.heap.size, 4, none⟩ (.bool d.down)).setCell ⟨w.heap.size, 5, none⟩ (.int .i64 b)) = W3 from hW3.symm]
  have q0 := put6_bk HN0.out (.int .i64 d.size) (.slice AE2 d.exts.length cE2) (.slice AW2 d.waits.length cW2) (.int .i64 d.fuse) (.bool d.down) (.int .i64 b)
  have q1 := HN1.out.fr (put6_fr w2 w.heap.size (.int .i64 d.size) (.slice AE2 d.exts.length cE2) (.slice AW2 d.waits.length cW2) (.int .i64 d.fuse) (.bool d.down) (.int .i64 b)) (by omega)
  have q2 := HN2.out.fr (put6_fr w2 w.heap.size (.int .i64 d.size) (.slice AE2 d.exts.length cE2) (.slice AW2 d.waits.length cW2) (.int .i64 d.fuse) (.bool d.down) (.int .i64 b)) (by omega)
  have qq := HQ2.out.put6 HN0.out (.int .i64 d.size) (.slice AE2 d.exts.length cE2) (.slice AW2 d.waits.length cW2) (.int .i64 d.fuse) (.bool d.down) (.int .i64 b)
  have qb := put6_below HB2.out (Nat.le_refl _) (.int .i64 d.size) (.slice AE2 d.exts.length cE2) (.slice AW2 d.waits.length cW2) (.int .i64 d.fuse) (.bool d.down) (.int .i64 b)
  rw [← hW3] at q0 q1 q2 qq qb
  have s0 := q1.cell 0
  have s1 := q1.cell 1
  have s2 := q1.cell 2
  have s3 := q1.cell 3
  have s4 := q1.cell 4
  have s5 := q1.cell 5
  have ls := q1.lt
  have HP0 := hide q0
  have HP1 := hide q1
  have HP2 := hide q2
  have HQ := hide qq
  have HB := hide qb
  clear q0 q1 q2 qq qb hW3 HN0 HN1 HN2 HQ2 HB2 x0 x1 x2 x3 x4 x5 fx0 fx1 fx2 fx3 fx4 fx5
  go_upto_region 11 with (first
    | (go_at_call 28; refine Calls.mono (HRt.out _) ?_; rintro e w4 ⟨rfl, hb4⟩; have m1 := HP1.out.keep hb4; have s0 := m1.cell 0; have s1 := m1.cell 1; have s2 := m1.cell 2; have s3 := m1.cell 3; have s4 := m1.cell 4; have s5 := m1.cell 5; have ls := m1.lt; have HP0 := hide (HP0.out.keep hb4); have HP1 := hide m1; have HP2 := hide (HP2.out.keep hb4); have HQ := hide (HQ.out.keep hb4); have HB := hide (HB.out.trans (hb4.mono HB.out.size)); clear hb4 m1)
    | (go_at_call 29; refine Calls.mono (HUs.out _) ?_; rintro e w5 ⟨rfl, hb5⟩; have m0 := HP0.out.keep hb5; have m1 := HP1.out.keep hb5; have x0 := m0.cell 0; have x1 := m0.cell 1; have x2 := m0.cell 2; have x3 := m0.cell 3; have x4 := m0.cell 4; have x5 := m0.cell 5; have s0 := m1.cell 0; have s1 := m1.cell 1; have s2 := m1.cell 2; have s3 := m1.cell 3; have s4 := m1.cell 4; have s5 := m1.cell 5; have ls := m1.lt; have lx := m0.lt; have HP0 := hide m0; have HP1 := hide m1; have HP2 := hide (HP2.out.keep hb5); have HQ := hide (HQ.out.keep hb5); have HB := hide (HB.out.trans (hb5.mono HB.out.size)); clear hb5 m0 m1))
  obtain ⟨W6, hW6⟩ : ∃ W6, W6 = w5.alloc (.cells #[.int .i64 d.size, .slice AE2 d.exts.length cE2, .slice AW2 d.waits.length cW2, .int .i64 d.fuse, .bool d.down] 25) := ⟨_, rfl⟩
  rw [← hW6]
  have hb6 : Below w5.heap.size w5 W6 := by rw [hW6]; exact ba1 _ _
  have k6 : Bk W6 w5.heap.size 25 #[.int .i64 d.size, .slice AE2 d.exts.length cE2, .slice AW2 d.waits.length cW2, .int .i64 d.fuse, .bool d.down] := by rw [hW6]; exact Bk.new _ _ _
  have q0 := HP0.out.keep hb6
  have q1 := HP1.out.keep hb6
  have q2 := HP2.out.keep hb6
  have qq := HQ.out.keep hb6
  have hdv : Dv W6 W6.heap.size (.agg #[.int .i64 d.size, .slice AE2 d.exts.length cE2, .slice AW2 d.waits.length cW2, .int .i64 d.fuse, .bool d.down]) d := by
    obtain ⟨a1, a2, a3, a4, e, h1, h2⟩ := qq.r
    cases e
    exact ⟨_, _, _, _, rfl, h1, h2⟩
  have s0 := q1.cell 0
  have s1 := q1.cell 1
  have s2 := q1.cell 2
  have s3 := q1.cell 3
  have s4 := q1.cell 4
  have s5 := q1.cell 5
  have x0 := q0.cell 0
  have x1 := q0.cell 1
  have x2 := q0.cell 2
  have x3 := q0.cell 3
  have x4 := q0.cell 4
  have x5 := q0.cell 5
  have fx0 := q0.free 0
  have fx1 := q0.free 1
  have fx2 := q0.free 2
  have fx3 := q0.free 3
  have fx4 := q0.free 4
  have fx5 := q0.free 5
  have r0 := q2.cell 0
  have r1 := q2.cell 1
  have r2 := q2.cell 2
  have r3 := q2.cell 3
  have r4 := q2.cell 4
  have r5 := q2.cell 5
  have fr0 := q2.free 0
  have fr1 := q2.free 1
  have fr2 := q2.free 2
  have fr3 := q2.free 3
  have fr4 := q2.free 4
  have fr5 := q2.free 5
  have t0 := k6.cell 0
  have t1 := k6.cell 1
  have t2 := k6.cell 2
  have t3 := k6.cell 3
  have t4 := k6.cell 4
  have l0 := q0.lt
  have l1 := q1.lt
  have l2 := q2.lt
  have l6 := k6.lt
  have HDv := hide hdv
  have HP0 := hide q0
  have HP1 := hide q1
  have HP2 := hide q2
  have HQ := hide qq
  have HB := hide (HB.out.trans (hb6.mono HB.out.size))
  clear q0 q1 q2 qq hdv k6 hb6 hW6
  obtain ⟨X7, hX7⟩ : ∃ W, W = W6 := ⟨_, rfl⟩
  have HSt := hide (set_bud W6 w.heap.size _ _ _ _ _ _ n A c HP0.out hbn)
  clear hbn
  go_upto_region 29 with (go_at_call 38; refine Calls.mono HSt.out ?_; rintro e w7 ⟨rfl, X, rfl⟩; have q0 := (HP0.out.set_ 5 (.int .i64 n)).alloc X; have hqq : WvQ ((W6.setCell ⟨w.heap.size, 5, none⟩ (.int .i64 n)).alloc X) (.agg #[.int .i64 d.size, .slice AE2 d.exts.length cE2, .slice AW2 d.waits.length cW2, .int .i64 d.fuse, .bool d.down, .int .i64 n]) d n := ((HQ.out.set5 HP0.out (.int .i64 n)).keep (ba1 _ X)).bud n; have q2 := (HP2.out.other (gx := w.heap.size) (by omega) 5 (.int .i64 n)).alloc X; have qb : Below w.heap.size w ((W6.setCell ⟨w.heap.size, 5, none⟩ (.int .i64 n)).alloc X) := (HB.out.setCell (p := ⟨w.heap.size, 5, none⟩) (Nat.le_refl _) _).alloc (by rw [size_setCell]; exact HB.out.size) X; obtain ⟨W8, hW8⟩ : ∃ W8, W8 = (W6.setCell ⟨w.heap.size, 5, none⟩ (.int .i64 n)).alloc X := ⟨_, rfl⟩; rw [← hW8] at q0 q2 qb hqq ⊢; clear hW8 x0 x1 x2 x3 x4 x5 fx0 fx1 fx2 fx3 fx4 fx5 r0 r1 r2 r3 r4 r5 fr0 fr1 fr2 fr3 fr4 fr5; have x0 := q0.cell 0; have x1 := q0.cell 1; have x2 := q0.cell 2; have x3 := q0.cell 3; have x4 := q0.cell 4; have x5 := q0.cell 5; have r0 := q2.cell 0; have r1 := q2.cell 1; have r2 := q2.cell 2; have r3 := q2.cell 3; have r4 := q2.cell 4; have r5 := q2.cell 5; have fr0 := q2.free 0; have fr1 := q2.free 1; have fr2 := q2.free 2; have fr3 := q2.free 3; have fr4 := q2.free 4; have fr5 := q2.free 5; have l0 := q0.lt; have l2 := q2.lt; have HE2 := hide q2; have HQ := hide hqq; have HB := hide qb; clear q0 q2 qb hqq)
  go_wp2_with fail
  refine bodyPost_ret (v := .tuple #[.agg #[_, _, _, _, _, _], .string ⟨#[]⟩, .int .i64 0]) (res_w3 Tryz.results16 (put6_bk HE2.out _ _ _ _ _ _) rfl rfl rfl) rfl ?_
  exact ⟨⟨_, rfl, HQ.out.put6 HE2.out _ _ _ _ _ _⟩, put6_below HB.out (by omega) _ _ _ _ _ _⟩
end Go.Proofs.YtmbonieeapbpoaaGreatDoor
/- Walk: world.Run, where each step is done without an error (printed by gen_wle.py). -/
namespace Go.Proofs.YtmbonieeapbpoaaGreatDoor
open Go.RowKit Go.Sort

theorem far6w {w : World} {b g : Nat} (h : b ≠ g) {a0 a1 a2 a3 a4 a5 : Value} {j : Nat} {v : Value} (hv : w.cell? ⟨g, j, none⟩ = some v) : ((((((w.setCell ⟨b, 0, none⟩ a0).setCell ⟨b, 1, none⟩ a1).setCell ⟨b, 2, none⟩ a2).setCell ⟨b, 3, none⟩ a3).setCell ⟨b, 4, none⟩ a4).setCell ⟨b, 5, none⟩ a5).cell? ⟨g, j, none⟩ = some v := by
  rw [World.cell?_setCell_far _ _ _ _ h, World.cell?_setCell_far _ _ _ _ h, World.cell?_setCell_far _ _ _ _ h, World.cell?_setCell_far _ _ _ _ h, World.cell?_setCell_far _ _ _ _ h, World.cell?_setCell_far _ _ _ _ h, hv]
theorem own_apartW {w : World} {b1 b2 e1 e2 s1 s2 n1 n2 : Nat} {v1 v2 : Value} {x1 x2 : List Value} (h1 : w.ownsRow b1 e1 s1 v1 n1 x1) (h2 : w.ownsRow b2 e2 s2 v2 n2 x2) (hne : e1 ≠ e2) : v1.ownBlock = none ∨ v1.ownBlock ≠ v2.ownBlock := by
  rcases h1.2 with ⟨rfl, _⟩ | ⟨g, cap, cur, rfl, _, hg, _⟩
  · exact .inl rfl
  · rcases h2.2 with ⟨rfl, _⟩ | ⟨g2, cap2, cur2, rfl, _, hg2, _⟩
    · exact .inr (by simp [Value.ownBlock])
    · refine .inr fun e => ?_
      simp only [Value.ownBlock, Option.some.injEq] at e
      subst e
      rw [hg] at hg2
      injection hg2 with h
      injection h with _ h
      exact hne h
/-- The texts that the first steps told. -/
def txts (txt : Nat → ByteArray) (k : Nat) : List Value := (List.range k).map fun j => .string (txt j)
theorem txts_succ (txt : Nat → ByteArray) (k : Nat) : txts txt (k + 1) = txts txt k ++ [.string (txt k)] := by unfold txts; rw [List.range_succ, List.map_append]; rfl
set_option maxRecDepth 100000 in
theorem res_wl3 {fn : Func} {p q r : Tmp} {W : World} {g : Nat} {c0 c1 c2 c3 c4 c5 : Value} {A : Option Addr} {n c : Nat} {z : Int} {tmps : Array Value} (hf : fn.results = #[.cell p 27, .tmp q, .tmp r]) (h : Bk W g 27 #[c0, c1, c2, c3, c4, c5]) (h2 : tmps.getD p undef = .pointer (some ⟨g, 0, none⟩)) (h3 : tmps.getD q undef = .slice A n c) (h4 : tmps.getD r undef = .int .i64 z) :
    (results fn tmps).run Tryz.prog W = .ok (.tuple #[.agg #[c0, c1, c2, c3, c4, c5], .slice A n c, .int .i64 z]) W := by
  have d0 : W.cell? ⟨g, 0, none⟩ = some c0 := h.cell 0
  have d1 : W.cell? ⟨g, 1, none⟩ = some c1 := h.cell 1
  have d2 : W.cell? ⟨g, 2, none⟩ = some c2 := h.cell 2
  have d3 : W.cell? ⟨g, 3, none⟩ = some c3 := h.cell 3
  have d4 : W.cell? ⟨g, 4, none⟩ = some c4 := h.cell 4
  have d5 : W.cell? ⟨g, 5, none⟩ = some c5 := h.cell 5
  rw [Array.getD_eq_getD_getElem?] at h2 h3 h4
  simp [results, hf, go_sem, h2, h3, h4, asAddr, d0, d1, d2, d3, d4, d5]
/-- What a step of a world's run comes to. -/
def DoIs (s : Stp) (b : Int) (d d' : Dsk) (t : ByteArray) : Prop := ∀ (K : Option Addr) (ck : Nat) (W : World) (V : Value), WvR W W.heap.size V d b → Calls Tryz.prog 16 #[V, .agg #[.int .u8 (s.kind : Nat), .string s.nm, .string s.to_, .string s.tx, .int .i64 s.n, .slice K s.keep.length ck]] W fun e w' => (∃ V', e = .returned (.tuple #[V', .string t, .int .i64 0]) ∧ WvQ w' V' d' b) ∧ Below W.heap.size W w'
set_option maxRecDepth 100000 in
set_option maxHeartbeats 16000000 in
theorem wrun_any (V : Value) (b : Int) (D : Nat → Dsk) (txt : Nat → ByteArray) (l : List Stp) (A : Option Addr) (c : Nat) (w : World) (hv : WvR w w.heap.size V (D 0) b) (hz : SzD (D 0)) (hw : worldE (D 0) b = 0) (hst : StsR w w.heap.size A l) (hl : l.length ≤ 1000000) (hdo : ∀ k s, l[k]? = some s → DoIs s b (D k) (D (k + 1)) (txt k)) :
    Calls Tryz.prog 22 #[V, .slice A l.length c] w fun e w' => (∃ V' A' c', e = .returned (.tuple #[V', .slice A' l.length c', .int .i64 0]) ∧ WvQ w' V' (D l.length) b ∧ w'.ownsRow w.heap.size 9 1 (.slice A' l.length c') l.length (txts txt l.length)) ∧ Below w.heap.size w w' := by
  have hck := fun W (h : Below w.heap.size w W) => wcheck_any V (D 0) b W ((hv.below h).more h.size) hz
  have how := fun W (h : Below w.heap.size w W) => wown_any V (D 0) b W ((hv.below h).more h.size) hz
  rw [hw] at hck
  obtain ⟨AE, cE, AW, cW, rfl, hE, hW⟩ := hv
  obtain ⟨W0, hW0⟩ : ∃ W0, W0 = (w.alloc (.cells #[.int .i64 (D 0).size, .slice AE (D 0).exts.length cE, .slice AW (D 0).waits.length cW, .int .i64 (D 0).fuse, .bool (D 0).down, .int .i64 b] 27)).alloc (.cells #[.int .i64 0, .slice none 0 0, .slice none 0 0, .int .i64 0, .bool false, .int .i64 0] 27) := ⟨_, rfl⟩
  have hb0 : Below w.heap.size w W0 := by rw [hW0]; exact ba2 _ _ _
  have k0 : Bk W0 w.heap.size 27 #[.int .i64 (D 0).size, .slice AE (D 0).exts.length cE, .slice AW (D 0).waits.length cW, .int .i64 (D 0).fuse, .bool (D 0).down, .int .i64 b] := by rw [hW0]; exact (Bk.new _ _ _).alloc _
  have k2 : Bk W0 (w.heap.size + 1) 27 #[.int .i64 0, .slice none 0 0, .slice none 0 0, .int .i64 0, .bool false, .int .i64 0] := by rw [hW0]; exact Bk.new1 _ _ _ _
  have p0 := k0.cell 0
  have p1 := k0.cell 1
  have p2 := k0.cell 2
  have p3 := k0.cell 3
  have p4 := k0.cell 4
  have p5 := k0.cell 5
  have lp := k0.lt
  have HCk := hide (hck W0 hb0)
  have HOw := hide how
  have HW0 := hide hW0
  have HB0 := hide hb0
  have HK0 := hide k0
  have HK2 := hide k2
  have HSt := hide hst
  have HDo := hide hdo
  clear hck how hE hW hW0 hb0 k0 k2 hst hdo hw hz
  obtain ⟨i0, hi, hz0, hz1, hz2⟩ := info_parts info_str
  go_enter Tryz.func22, Tryz.ntmps22
  go_upto_region 5 with (first
    | (have hx := HB1; clear hx; go_at_call 27; refine Calls.mono (HOw.out _ HB1.out) ?_; rintro e w2 ⟨⟨V2, rfl, hq2⟩, hb2⟩; have HQ2 := hide hq2; obtain ⟨AE2, cE2, AW2, cW2, rfl, h1, h2⟩ := hq2; have m0 := HM0.out.keep hb2; have x0 := m0.cell 0; have fx0 := m0.free 0; have x1 := m0.cell 1; have fx1 := m0.free 1; have x2 := m0.cell 2; have fx2 := m0.free 2; have x3 := m0.cell 3; have fx3 := m0.free 3; have x4 := m0.cell 4; have fx4 := m0.free 4; have x5 := m0.cell 5; have fx5 := m0.free 5; have lx := m0.lt; have HN0 := hide m0; have HN2 := hide (HM2.out.keep hb2); have HB2 := hide (HB1.out.trans (hb2.mono HB1.out.size)); clear hb2 m0 h1 h2)
    | (go_at_call 12; rw [← HW0.out]; refine Calls.mono HCk.out ?_; rintro e w1 ⟨rfl, hb1⟩; have m0 := HK0.out.keep hb1; have y0 := m0.cell 0; have y1 := m0.cell 1; have y2 := m0.cell 2; have y3 := m0.cell 3; have y4 := m0.cell 4; have y5 := m0.cell 5; have ly := m0.lt; have HM0 := hide m0; have HM2 := hide (HK2.out.keep hb1); have HB1 := hide (HB0.out.trans (hb1.mono HB0.out.size)); clear hb1 m0))
  obtain ⟨W3, hW3⟩ : ∃ W3, W3 = put6 w2 w.heap.size (.int .i64 (D 0).size) (.slice AE2 (D 0).exts.length cE2) (.slice AW2 (D 0).waits.length cW2) (.int .i64 (D 0).fuse) (.bool (D 0).down) (.int .i64 b) := ⟨_, rfl⟩
  rw [show ((((((w2.setCell ⟨w.heap.size, 0, none⟩ (.int .i64 (D 0).size)).setCell ⟨w.heap.size, 1, none⟩ (.slice AE2 (D 0).exts.length cE2)).setCell ⟨w.heap.size, 2, none⟩ (.slice AW2 (D 0).waits.length cW2)).setCell ⟨w.heap.size, 3, none⟩ (.int .i64 (D 0).fuse)).setCell ⟨w.heap.size, 4, none⟩ (.bool (D 0).down)).setCell ⟨w.heap.size, 5, none⟩ (.int .i64 b)) = W3 from hW3.symm]
  have q0 := put6_bk HN0.out (.int .i64 (D 0).size) (.slice AE2 (D 0).exts.length cE2) (.slice AW2 (D 0).waits.length cW2) (.int .i64 (D 0).fuse) (.bool (D 0).down) (.int .i64 b)
  have q2 := HN2.out.fr (put6_fr w2 w.heap.size (.int .i64 (D 0).size) (.slice AE2 (D 0).exts.length cE2) (.slice AW2 (D 0).waits.length cW2) (.int .i64 (D 0).fuse) (.bool (D 0).down) (.int .i64 b)) (by omega)
  have qq := HQ2.out.put6 HN0.out (.int .i64 (D 0).size) (.slice AE2 (D 0).exts.length cE2) (.slice AW2 (D 0).waits.length cW2) (.int .i64 (D 0).fuse) (.bool (D 0).down) (.int .i64 b)
  have qb := put6_below HB2.out (Nat.le_refl _) (.int .i64 (D 0).size) (.slice AE2 (D 0).exts.length cE2) (.slice AW2 (D 0).waits.length cW2) (.int .i64 (D 0).fuse) (.bool (D 0).down) (.int .i64 b)
  rw [← hW3] at q0 q2 qq qb
  have HStart := hide (show ∃ AE cE AW cW, Bk W3 w.heap.size 27 #[.int .i64 (D 0).size, .slice AE (D 0).exts.length cE, .slice AW (D 0).waits.length cW, .int .i64 (D 0).fuse, .bool (D 0).down, .int .i64 b] ∧ W3.ownsRow 0 49 2 (.slice AE (D 0).exts.length cE) (D 0).exts.length (flatE (D 0).exts) ∧ W3.ownsRow 0 77 3 (.slice AW (D 0).waits.length cW) (D 0).waits.length (flatW (D 0).waits) from by
    obtain ⟨a1, a2, a3, a4, e, h1, h2⟩ := qq
    cases e
    exact ⟨_, _, _, _, q0, h1, h2⟩)
  have HR3 := hide q2
  have HB3 := hide qb
  have HNo := hide (World.ownsRow_nil W3 w.heap.size 9 1)
  clear q0 q2 qq qb hW3 HN0 HN2 HQ2 HB2 x0 x1 x2 x3 x4 x5 fx0 fx1 fx2 fx3 fx4 fx5 p0 p1 p2 p3 p4 p5 y0 y1 y2 y3 y4 y5 lx ly
  go_wp2_with fail
  go_loopw [8, 9, 25] (fun ov fv iv wr => ∃ (k : Nat), iv = .int .i64 k ∧ fv = .int .i64 0 ∧ k ≤ l.length ∧ Hid (∃ AE cE AW cW, Bk wr w.heap.size 27 #[.int .i64 (D k).size, .slice AE (D k).exts.length cE, .slice AW (D k).waits.length cW, .int .i64 (D k).fuse, .bool (D k).down, .int .i64 b] ∧ wr.ownsRow 0 49 2 (.slice AE (D k).exts.length cE) (D k).exts.length (flatE (D k).exts) ∧ wr.ownsRow 0 77 3 (.slice AW (D k).waits.length cW) (D k).waits.length (flatW (D k).waits)) ∧ Hid (wr.ownsRow w.heap.size 9 1 ov k (txts txt k)) ∧ Hid (Bk wr (w.heap.size + 1) 27 #[.int .i64 0, .slice none 0 0, .slice none 0 0, .int .i64 0, .bool false, .int .i64 0]) ∧ Hid (Below w.heap.size w wr)) (fun _ _ iv _ => l.length - (intOf iv).toNat)
  case atStart => exact ⟨0, rfl, rfl, by omega, HStart, HNo, HR3, HB3⟩
  case round =>
    clear HStart HNo HB3 HR3
    obtain ⟨k, rfl, rfl, hk, hBlk, hO, hR, hB⟩ := hrel
    obtain ⟨AO, cO, rfl⟩ := own_formk hO.out
    by_cases hlt : k < l.length
    · obtain ⟨sk, hsk⟩ : ∃ s, l[k]? = some s := ⟨l[k], List.getElem?_eq_getElem hlt⟩
      obtain ⟨bb, oo, kv, rfl, hbb, hkv, c0, c1, c2, c3, c4, c5⟩ := stp_cells (HSt.out.below hB.out) hsk
      have hbr : bb < wr.heap.size := Nat.lt_of_lt_of_le hbb hB.out.size
      obtain ⟨K, ck, rfl, hK⟩ := hkv
      obtain ⟨AE, cE, AW, cW, hkW, hE, hW⟩ := hBlk.out
      have hkl : (k : Int) < l.length := by omega
      obtain ⟨W5, hW5⟩ : ∃ W5, W5 = wr.alloc (.cells #[.int .u8 (sk.kind : Nat), .string sk.nm, .string sk.to_, .string sk.tx, .int .i64 sk.n, .slice K sk.keep.length ck] 46) := ⟨_, rfl⟩
      have HW5 := hide hW5
      have hdo := HDo.out k sk hsk K ck
      obtain ⟨t, ht⟩ : ∃ t, t = txt k := ⟨_, rfl⟩
      rw [← ht] at hdo
      have HT := hide ht
      have hb5 : Below wr.heap.size wr W5 := by rw [hW5]; exact ba1 _ _
      have k5 : Bk W5 wr.heap.size 46 #[.int .u8 (sk.kind : Nat), .string sk.nm, .string sk.to_, .string sk.tx, .int .i64 sk.n, .slice K sk.keep.length ck] := by rw [hW5]; exact Bk.new _ _ _
      have kg5 := hkW.keep hb5
      have hv5 : WvR W5 W5.heap.size (.agg #[.int .i64 (D k).size, .slice AE (D k).exts.length cE, .slice AW (D k).waits.length cW, .int .i64 (D k).fuse, .bool (D k).down, .int .i64 b]) (D k) b := ⟨AE, cE, AW, cW, rfl, own_rdk (own_keep hE hb5), own_rdk (own_keep hW hb5)⟩
      have HDo5 := hide (hdo W5 _ hv5)
      have HO5 := hide (own_keep hO.out hb5)
      have HR5 := hide (hR.out.keep hb5)
      have HB5 := hide (hB.out.trans (hb5.mono hB.out.size))
      have hgl : w.heap.size < wr.heap.size := hkW.lt
      have s0 := k5.cell 0
      have s1 := k5.cell 1
      have s2 := k5.cell 2
      have s3 := k5.cell 3
      have s4 := k5.cell 4
      have s5 := k5.cell 5
      have g0 := kg5.cell 0
      have g1 := kg5.cell 1
      have g2 := kg5.cell 2
      have g3 := kg5.cell 3
      have g4 := kg5.cell 4
      have g5 := kg5.cell 5
      have l5 := k5.lt
      have lg5 := kg5.lt
      have HG5 := hide kg5
      clear hdo hb5 k5 kg5 hv5 hkW hE hW hK hsk hW5 ht
      go_upto_region 10 with (fail)
      rw [← HW5.out]
      go_upto_region 11 with (go_at_call 16; refine Calls.mono HDo5.out ?_; rintro e w6 ⟨⟨V6, rfl, hq6⟩, hb6⟩; obtain ⟨AE6, cE6, AW6, cW6, rfl, h1, h2⟩ := hq6; have HE6 := hide h1; have HWW6 := hide h2; have HG6 := hide (HG5.out.keep hb6); have HO6 := hide (own_keep HO5.out hb6); have HR6 := hide (HR5.out.keep hb6); have HB6 := hide (HB5.out.trans (hb6.mono HB5.out.size)); have hz6 := hb6.size; clear h1 h2 hb6)
      obtain ⟨W7, hW7⟩ : ∃ W7, W7 = w6.alloc (.cells #[.int .i64 (D (k + 1)).size, .slice AE6 (D (k + 1)).exts.length cE6, .slice AW6 (D (k + 1)).waits.length cW6, .int .i64 (D (k + 1)).fuse, .bool (D (k + 1)).down, .int .i64 b] 27) := ⟨_, rfl⟩
      rw [← hW7]
      have hb7 : Below w6.heap.size w6 W7 := by rw [hW7]; exact ba1 _ _
      have k7 : Bk W7 w6.heap.size 27 #[.int .i64 (D (k + 1)).size, .slice AE6 (D (k + 1)).exts.length cE6, .slice AW6 (D (k + 1)).waits.length cW6, .int .i64 (D (k + 1)).fuse, .bool (D (k + 1)).down, .int .i64 b] := by rw [hW7]; exact Bk.new _ _ _
      have kg7 := HG6.out.keep hb7
      have u0 := k7.cell 0
      have u1 := k7.cell 1
      have u2 := k7.cell 2
      have u3 := k7.cell 3
      have u4 := k7.cell 4
      have u5 := k7.cell 5
      have HK15 := hide k7
      have HG7 := hide kg7
      have HO7 := hide (own_keep HO6.out hb7)
      have HE7 := hide (own_keep HE6.out hb7)
      have HWW7 := hide (own_keep HWW6.out hb7)
      have HR7 := hide (HR6.out.keep hb7)
      have HB7 := hide (HB6.out.trans (hb7.mono HB6.out.size))
      have hlg : w.heap.size < w6.heap.size := HG6.out.lt
      clear hb7 k7 kg7 hW7 HE6 HWW6 HG6 HO6 HB6 HG5 HO5 HB5 HR5 HR6 c0 c1 c2 c3 c4 c5 g0 g1 g2 g3 g4 g5 s0 s1 s2 s3 s4 s5
      have hn2 : w.heap.size ≠ w6.heap.size := by omega
      go_upto_region 13 with (fail)
      have HK15 := hide (show Bk W7.drew _ _ _ from HK15.out)
      have HG7 := hide (show Bk W7.drew _ _ _ from HG7.out)
      have HR7 := hide (show Bk W7.drew _ _ _ from HR7.out)
      have HO7 := hide (own_drew HO7.out)
      have HE7 := hide (own_drew HE7.out)
      have HWW7 := hide (own_drew HWW7.out)
      have hz7 : w.heap.size ≤ W7.heap.size := HB7.out.size
      have HB7 := hide (show Below w.heap.size w W7.drew from HB7.out.drew)
      have hz8 : w.heap.size ≤ W7.drew.heap.size := hz7
      go_region_held3 (fun w' => w'.cell? ⟨w6.heap.size, 0, none⟩ = some (.int .i64 (D (k + 1)).size) ∧ w'.cell? ⟨w6.heap.size, 1, none⟩ = some (.slice AE6 (D (k + 1)).exts.length cE6) ∧ w'.cell? ⟨w6.heap.size, 2, none⟩ = some (.slice AW6 (D (k + 1)).waits.length cW6) ∧ w'.cell? ⟨w6.heap.size, 3, none⟩ = some (.int .i64 (D (k + 1)).fuse) ∧ w'.cell? ⟨w6.heap.size, 4, none⟩ = some (.bool (D (k + 1)).down) ∧ w'.cell? ⟨w6.heap.size, 5, none⟩ = some (.int .i64 b)) (first | with_reducible exact ⟨u0, u1, u2, u3, u4, u5⟩ | with_reducible exact ⟨far6w hn2 u0, far6w hn2 u1, far6w hn2 u2, far6w hn2 u3, far6w hn2 u4, far6w hn2 u5⟩ | go_keep)
        ((refine step_append_lies _ rfl (.tmp 40) (.tmp 42) 28 rfl w.heap.size 9 i0 (.string ⟨#[]⟩) 1 16 Tryz.underlying28 hi hz0 hz1 hz2 rfl (by decide) (.slice AO k cO) k (txts txt k) rfl (HO7.out.alloc _) ⟨_, 0, none⟩ 1 1 [.string t] rfl rfl (World.news_of_block (Bk.new _ _ _)) (by intro u hu; simp at hu; subst hu; rfl) (by decide) (by unfold maxLen; omega) (by omega) (by simp; omega) _ rfl ?_; intro g4 cap4 w4 hown4 hgr4 _ _; have k15 := (HK15.out.alloc (.cells #[.string t] 9)).grown hgr4 (own_ne HO7.out HK15.out (by decide)); have kg := (HG7.out.alloc (.cells #[.string t] 9)).grown hgr4 (own_ne HO7.out HG7.out (by decide)); have kr := (HR7.out.alloc (.cells #[.string t] 9)).grown hgr4 (own_ne HO7.out HR7.out (by decide)); have he4 := (HE7.out.alloc (.cells #[.string t] 9)).kept hgr4 (own_apartW HE7.out HO7.out (by decide)); have hw4 := (HWW7.out.alloc (.cells #[.string t] 9)).kept hgr4 (own_apartW HWW7.out HO7.out (by decide)); have hb4 := (HB7.out.alloc HB7.out.size (.cells #[.string t] 9)).grown hgr4 (by have := HB7.out.size; simp; omega) (fun g hg => (HO7.out.lt g hg).1); have u0 := k15.cell 0; have u1 := k15.cell 1; have u2 := k15.cell 2; have u3 := k15.cell 3; have u4 := k15.cell 4; have u5 := k15.cell 5; have g0 := kg.cell 0; have fg0 := kg.free 0; have g1 := kg.cell 1; have fg1 := kg.free 1; have g2 := kg.cell 2; have fg2 := kg.free 2; have g3 := kg.cell 3; have fg3 := kg.free 3; have g4 := kg.cell 4; have fg4 := kg.free 4; have g5 := kg.cell 5; have fg5 := kg.free 5; have lg4 := kg.lt; have HG4 := hide kg; have HE4 := hide he4; have HWW4 := hide hw4; have HB4 := hide hb4; have HO4 := hide hown4; have HR4 := hide kr; clear k15 kg he4 hw4 hb4 hown4 hgr4 kr))
      all_goals go_wp2_with fail
      all_goals refine ⟨⟨k + 1, by rw [Int.natCast_add]; rfl, rfl, by omega, hide ⟨AE6, cE6, AW6, cW6, put6_bk HG4.out _ _ _ _ _ _, own_put6 HE4.out (fun e => own_ne HE4.out HG4.out (by decide) e.symm) _ _ _ _ _ _, own_put6 HWW4.out (fun e => own_ne HWW4.out HG4.out (by decide) e.symm) _ _ _ _ _ _⟩, hide ?_, hide (HR4.out.fr (put6_fr _ w.heap.size _ _ _ _ _ _) (by omega)), hide (put6_below HB4.out (Nat.le_refl _) _ _ _ _ _ _)⟩, by simp [intOf]; omega⟩
      all_goals (rw [txts_succ, ← HT.out]; exact own_put6 HO4.out (fun e => own_ne HO4.out HG4.out (by decide) e.symm) _ _ _ _ _ _)
    · obtain rfl : k = l.length := by omega
      obtain ⟨AE, cE, AW, cW, hkW, hE, hW⟩ := hBlk.out
      have g0 := hkW.cell 0
      have g1 := hkW.cell 1
      have g2 := hkW.cell 2
      have g3 := hkW.cell 3
      have g4 := hkW.cell 4
      have g5 := hkW.cell 5
      have r0 := hR.out.cell 0
      have fr0 := hR.out.free 0
      have r1 := hR.out.cell 1
      have fr1 := hR.out.free 1
      have r2 := hR.out.cell 2
      have fr2 := hR.out.free 2
      have r3 := hR.out.cell 3
      have fr3 := hR.out.free 3
      have r4 := hR.out.cell 4
      have fr4 := hR.out.free 4
      have r5 := hR.out.cell 5
      have fr5 := hR.out.free 5
      have lg := hkW.lt
      have lr := hR.out.lt
      have HQ := hide (show WvQ wr (.agg #[.int .i64 (D l.length).size, .slice AE (D l.length).exts.length cE, .slice AW (D l.length).waits.length cW, .int .i64 (D l.length).fuse, .bool (D l.length).down, .int .i64 b]) (D l.length) b from ⟨AE, cE, AW, cW, rfl, hE, hW⟩)
      clear hkW hE hW hBlk
      go_wp2_with fail
      refine bodyPost_ret (v := .tuple #[.agg #[_, _, _, _, _, _], .slice AO l.length cO, .int .i64 0]) (res_wl3 Tryz.results22 (put6_bk hR.out _ _ _ _ _ _) rfl rfl rfl) rfl ?_
      exact ⟨⟨_, AO, cO, rfl, HQ.out.put6 hR.out _ _ _ _ _ _, own_put6 hO.out (fun e => own_ne hO.out hR.out (by decide) e.symm) _ _ _ _ _ _⟩, put6_below hB.out (by omega) _ _ _ _ _ _⟩
end Go.Proofs.YtmbonieeapbpoaaGreatDoor
/- Walk: wringerlaw29.lives (printed by gen_wlf.py). -/
namespace Go.Proofs.YtmbonieeapbpoaaGreatDoor
open Go.RowKit Go.Sort

def l9S : List Stp := [⟨1, ⟨#[98]⟩, ⟨#[]⟩, ⟨#[120, 121, 120]⟩, 0, []⟩, ⟨1, ⟨#[97]⟩, ⟨#[]⟩, ⟨#[120]⟩, 0, []⟩, ⟨3, ⟨#[97]⟩, ⟨#[]⟩, ⟨#[]⟩, 0, []⟩, ⟨1, ⟨#[99]⟩, ⟨#[]⟩, ⟨#[122]⟩, 0, []⟩, ⟨2, ⟨#[98]⟩, ⟨#[]⟩, ⟨#[]⟩, 0, []⟩]
def l9D (k : Nat) : Dsk := if k = 0 then l9D0 else if k = 1 then l9D1 else if k = 2 then l9D2 else if k = 3 then l9D3 else l9D4
def l9T (k : Nat) : ByteArray := if k = 4 then ⟨#[120, 121, 120]⟩ else ⟨#[]⟩
theorem l9_open : openD l9D2 = (l9D2, 0) := by decide +kernel
theorem l9_is : findIs l9D2.exts ⟨#[97]⟩ = true := by decide +kernel
theorem l9_len : l9D2.exts.length = findI l9D2.exts ⟨#[97]⟩ + 1 + (0 + 1) := by decide +kernel
theorem l9_do : ∀ k s, l9S[k]? = some s → DoIs s 24 (l9D k) (l9D (k + 1)) (l9T k) := by
  intro k s hs
  match k, hs with
  | 0, hs =>
    obtain rfl := Option.some.inj hs
    intro K ck W V h
    have := do_put V l9D0 24 ⟨#[98]⟩ ⟨#[120, 121, 120]⟩ K ck W h l9_sz0 l9_w0 (by decide) (by decide) l9_may1
    rw [show putD l9D0 ⟨#[98]⟩ 0 (⟨#[120, 121, 120]⟩ : ByteArray).size ⟨#[120, 121, 120]⟩ = (l9D1, 0) from l9_put1] at this
    exact this
  | 1, hs =>
    obtain rfl := Option.some.inj hs
    intro K ck W V h
    have := do_put V l9D1 24 ⟨#[97]⟩ ⟨#[120]⟩ K ck W h l9_sz1 l9_w1 (by decide) (by decide) l9_may2
    rw [show putD l9D1 ⟨#[97]⟩ 0 (⟨#[120]⟩ : ByteArray).size ⟨#[120]⟩ = (l9D2, 0) from l9_put2] at this
    exact this
  | 2, hs =>
    obtain rfl := Option.some.inj hs
    intro K ck W V h
    have := do_free V l9D2 24 ⟨#[97]⟩ 0 K ck W h l9_sz2 l9_w2 (by decide) l9_may2 l9_open l9_waits l9_is l9_len
    rw [l9_free] at this
    exact this
  | 3, hs =>
    obtain rfl := Option.some.inj hs
    intro K ck W V h
    have := do_put V l9D3 24 ⟨#[99]⟩ ⟨#[122]⟩ K ck W h l9_sz3 l9_w3 (by decide) (by decide) l9_may3
    rw [show putD l9D3 ⟨#[99]⟩ 0 (⟨#[122]⟩ : ByteArray).size ⟨#[122]⟩ = (l9D4, 0) from l9_put3] at this
    exact this
  | 4, hs =>
    obtain rfl := Option.some.inj hs
    intro K ck W V h
    have := do_get V l9D4 24 ⟨#[98]⟩ K ck W h l9_sz4 l9_w4 (by decide)
    rw [l9_get] at this
    exact this
  | k + 5, hs => simp [l9S] at hs
def l9C : Array Value := #[.int .u8 1, .string ⟨#[98]⟩, .string ⟨#[]⟩, .string ⟨#[120, 121, 120]⟩, .int .i64 0, .slice none 0 0, .int .u8 1, .string ⟨#[97]⟩, .string ⟨#[]⟩, .string ⟨#[120]⟩, .int .i64 0, .slice none 0 0, .int .u8 3, .string ⟨#[97]⟩, .string ⟨#[]⟩, .string ⟨#[]⟩, .int .i64 0, .slice none 0 0, .int .u8 1, .string ⟨#[99]⟩, .string ⟨#[]⟩, .string ⟨#[122]⟩, .int .i64 0, .slice none 0 0, .int .u8 2, .string ⟨#[98]⟩, .string ⟨#[]⟩, .string ⟨#[]⟩, .int .i64 0, .slice none 0 0]
theorem l9_sts {W : World} {h : Nat} (hk : Bk W h 46 l9C) : StsR W W.heap.size (some ⟨h, 0, none⟩) l9S := by
  refine ⟨[.slice none 0 0, .slice none 0 0, .slice none 0 0, .slice none 0 0, .slice none 0 0], rfl, fun i u hu => ⟨h, 0, rfl, hk.lt, ?_⟩, fun i s v hs hv => ?_⟩
  · rw [Nat.zero_add]
    exact (hk.cell i).trans (by rw [← Array.getElem?_toList]; exact hu)
  · have hk0 : s.keep = [] := by
      match i, hs with
      | 0, hs => obtain rfl := Option.some.inj hs; rfl
      | 1, hs => obtain rfl := Option.some.inj hs; rfl
      | 2, hs => obtain rfl := Option.some.inj hs; rfl
      | 3, hs => obtain rfl := Option.some.inj hs; rfl
      | 4, hs => obtain rfl := Option.some.inj hs; rfl
      | k + 5, hs => simp [l9S] at hs
    have hv0 : v = .slice none 0 0 := by
      match i, hv with
      | 0, hv => exact (Option.some.inj hv).symm
      | 1, hv => exact (Option.some.inj hv).symm
      | 2, hv => exact (Option.some.inj hv).symm
      | 3, hv => exact (Option.some.inj hv).symm
      | 4, hv => exact (Option.some.inj hv).symm
      | k + 5, hv => simp at hv
    rw [hk0, hv0]
    exact ⟨none, 0, rfl, fun j u hu => by simp at hu⟩
set_option maxRecDepth 100000 in
set_option maxHeartbeats 16000000 in
theorem lives29_any (w : World) : Calls Tryz.prog 9 #[] w fun e w' => e = .returned (.bool true) ∧ Below w.heap.size w w' := by
  have hmk := fun W => wmake_any 900 24 W
  rw [l9_make] at hmk
  have hmk2 := fun W => wmake_any 1 23 W
  rw [l9_no] at hmk2
  have HMk := hide hmk
  have HMk2 := hide hmk2
  clear hmk hmk2
  go_enter Tryz.func9, Tryz.ntmps9
  go_upto_region 2 with (go_at_call 7; refine Calls.mono (HMk.out _) ?_; rintro e w1 ⟨⟨V1, rfl, hq1⟩, hb1⟩; obtain ⟨AE1, cE1, AW1, cW1, rfl, h1, h2⟩ := hq1; have H1 := hide h1; have H2 := hide h2; have HB1 := hide hb1; clear h1 h2 hb1)
  obtain ⟨W2, hW2⟩ : ∃ W2, W2 = w1.alloc (.cells #[.int .i64 l9D0.size, .slice AE1 l9D0.exts.length cE1, .slice AW1 l9D0.waits.length cW1, .int .i64 l9D0.fuse, .bool l9D0.down, .int .i64 24] 27) := ⟨_, rfl⟩
  rw [← hW2]
  have hb2 : Below w1.heap.size w1 W2 := by rw [hW2]; exact ba1 _ _
  have k2 : Bk W2 w1.heap.size 27 #[.int .i64 l9D0.size, .slice AE1 l9D0.exts.length cE1, .slice AW1 l9D0.waits.length cW1, .int .i64 l9D0.fuse, .bool l9D0.down, .int .i64 24] := by rw [hW2]; exact Bk.new _ _ _
  obtain ⟨W3, hW3⟩ : ∃ W3, W3 = W2.alloc (.cells l9C 46) := ⟨_, rfl⟩
  have hb3 : Below W2.heap.size W2 W3 := by rw [hW3]; exact ba1 _ _
  have hk3 : Bk W3 W2.heap.size 46 l9C := by rw [hW3]; exact Bk.new _ _ _
  have k3 := k2.keep hb3
  have hv3 : WvR W3 W3.heap.size (.agg #[.int .i64 l9D0.size, .slice AE1 l9D0.exts.length cE1, .slice AW1 l9D0.waits.length cW1, .int .i64 l9D0.fuse, .bool l9D0.down, .int .i64 24]) (l9D 0) 24 := ⟨AE1, cE1, AW1, cW1, rfl, own_rdk (own_keep (own_keep H1.out hb2) hb3), own_rdk (own_keep (own_keep H2.out hb2) hb3)⟩
  have hrun := wrun_any _ 24 l9D l9T l9S (some ⟨W2.heap.size, 0, none⟩) 5 W3 hv3 l9_sz0 l9_w0 (l9_sts hk3) (by decide) l9_do
  have HRun := hide (show Calls Tryz.prog 22 #[.agg #[.int .i64 l9D0.size, .slice AE1 l9D0.exts.length cE1, .slice AW1 l9D0.waits.length cW1, .int .i64 l9D0.fuse, .bool l9D0.down, .int .i64 24], .slice (some ⟨W2.heap.size, 0, none⟩) 5 5] W3 fun e w' => (∃ V' A' c', e = .returned (.tuple #[V', .slice A' 5 c', .int .i64 0]) ∧ WvQ w' V' l9D4 24 ∧ w'.ownsRow W3.heap.size 9 1 (.slice A' 5 c') 5 (txts l9T 5)) ∧ Below W3.heap.size W3 w' from hrun)
  have p0 := k2.cell 0
  have p1 := k2.cell 1
  have p2 := k2.cell 2
  have p3 := k2.cell 3
  have p4 := k2.cell 4
  have p5 := k2.cell 5
  have lp := k2.lt
  have HW3 := hide (show (W2.alloc (.cells #[.int .u8 1, .string ⟨#[98]⟩, .string ⟨#[]⟩, .string ⟨#[120, 121, 120]⟩, .int .i64 0, .slice none 0 0, .int .u8 1, .string ⟨#[97]⟩, .string ⟨#[]⟩, .string ⟨#[120]⟩, .int .i64 0, .slice none 0 0, .int .u8 3, .string ⟨#[97]⟩, .string ⟨#[]⟩, .string ⟨#[]⟩, .int .i64 0, .slice none 0 0, .int .u8 1, .string ⟨#[99]⟩, .string ⟨#[]⟩, .string ⟨#[122]⟩, .int .i64 0, .slice none 0 0, .int .u8 2, .string ⟨#[98]⟩, .string ⟨#[]⟩, .string ⟨#[]⟩, .int .i64 0, .slice none 0 0] 46)) = W3 from hW3.symm)
  have HK3 := hide k3
  have HB3 := hide (HB1.out.trans ((hb2.trans (hb3.mono hb2.size)).mono HB1.out.size))
  obtain ⟨g, hg⟩ : ∃ g, g = w1.heap.size := ⟨_, rfl⟩
  have hgw : w.heap.size ≤ g := by rw [hg]; exact HB1.out.size
  have hgl : g < W3.heap.size := by rw [hg]; exact Nat.lt_of_lt_of_le lp hb3.size
  rw [← hg] at HK3
  clear hrun hv3 hk3 k3 hb3 k2 hb2 hW3 hW2 H1 H2
  go_upto_region 3 with (go_at_call 22; rw [HW3.out]; refine Calls.mono HRun.out ?_; rintro e w4 ⟨⟨V4, A4, c4, rfl, hq4, ho4⟩, hb4⟩; have HQ4 := hide hq4; obtain ⟨AE4, cE4, AW4, cW4, rfl, h1, h2⟩ := hq4; have k4 := HK3.out.keep hb4; rw [hg] at k4; have x0 := k4.cell 0; have fx0 := k4.free 0; have x1 := k4.cell 1; have fx1 := k4.free 1; have x2 := k4.cell 2; have fx2 := k4.free 2; have x3 := k4.cell 3; have fx3 := k4.free 3; have x4 := k4.cell 4; have fx4 := k4.free 4; have x5 := k4.cell 5; have fx5 := k4.free 5; have lx := k4.lt; rw [← hg] at k4; have HK4 := hide k4; have HO4 := hide ho4; have HB4 := hide (HB3.out.trans (hb4.mono HB3.out.size)); clear hb4 k4 ho4 h1 h2)
  obtain ⟨W5, hW5⟩ : ∃ W5, W5 = put6 w4 g (.int .i64 l9D4.size) (.slice AE4 l9D4.exts.length cE4) (.slice AW4 l9D4.waits.length cW4) (.int .i64 l9D4.fuse) (.bool l9D4.down) (.int .i64 24) := ⟨_, rfl⟩
  have hW5' := hW5
  rw [hg] at hW5'
  rw [show ((((((w4.setCell ⟨w1.heap.size, 0, none⟩ (.int .i64 l9D4.size)).setCell ⟨w1.heap.size, 1, none⟩ (.slice AE4 l9D4.exts.length cE4)).setCell ⟨w1.heap.size, 2, none⟩ (.slice AW4 l9D4.waits.length cW4)).setCell ⟨w1.heap.size, 3, none⟩ (.int .i64 l9D4.fuse)).setCell ⟨w1.heap.size, 4, none⟩ (.bool l9D4.down)).setCell ⟨w1.heap.size, 5, none⟩ (.int .i64 24)) = W5 from hW5'.symm]
  have k5 := put6_bk HK4.out (.int .i64 l9D4.size) (.slice AE4 l9D4.exts.length cE4) (.slice AW4 l9D4.waits.length cW4) (.int .i64 l9D4.fuse) (.bool l9D4.down) (.int .i64 24)
  have q5 := HQ4.out.put6 HK4.out (.int .i64 l9D4.size) (.slice AE4 l9D4.exts.length cE4) (.slice AW4 l9D4.waits.length cW4) (.int .i64 l9D4.fuse) (.bool l9D4.down) (.int .i64 24)
  have o5 := own_put6 HO4.out (fun e => own_ne HO4.out HK4.out (by decide) e.symm) (.int .i64 l9D4.size) (.slice AE4 l9D4.exts.length cE4) (.slice AW4 l9D4.waits.length cW4) (.int .i64 l9D4.fuse) (.bool l9D4.down) (.int .i64 24)
  have b5 := put6_below HB4.out hgw (.int .i64 l9D4.size) (.slice AE4 l9D4.exts.length cE4) (.slice AW4 l9D4.waits.length cW4) (.int .i64 l9D4.fuse) (.bool l9D4.down) (.int .i64 24)
  rw [← hW5] at k5 q5 o5 b5
  clear hW5 hW5' HK4 HQ4 HO4 HB4 HK3 HB3 HW3 HRun x0 x1 x2 x3 x4 x5 fx0 fx1 fx2 fx3 fx4 fx5 lx p0 p1 p2 p3 p4 p5 lp
  rw [← hg]
  clear hg
  have hfi := files_any _ l9D4 24 W5 q5.r l9_sz4
  rw [l9_files] at hfi
  have HFi := hide hfi
  have p0 := k5.cell 0
  have p1 := k5.cell 1
  have p2 := k5.cell 2
  have p3 := k5.cell 3
  have p4 := k5.cell 4
  have p5 := k5.cell 5
  have lp := k5.lt
  have HQ5 := hide q5
  have HK5 := hide k5
  have HO5 := hide o5
  have HB5 := hide b5
  clear k5 q5 o5 b5 hfi hgl
  go_upto_region 4 with (go_at_call 5; refine Calls.mono HFi.out ?_; rintro e w6 ⟨⟨L6, rfl, ho6⟩, hb6⟩; obtain ⟨A6, c6, rfl⟩ := own_formk ho6; have k6 := HK5.out.keep hb6; have x0 := k6.cell 0; have x1 := k6.cell 1; have x2 := k6.cell 2; have x3 := k6.cell 3; have x4 := k6.cell 4; have x5 := k6.cell 5; have lx := k6.lt; have HQ6 := hide (HQ5.out.keep hb6); have HK6 := hide k6; have HO6 := hide (own_keep HO5.out hb6); have HL6 := hide ho6; have HB6 := hide (HB5.out.trans (hb6.mono HB5.out.size)); clear hb6 k6 ho6)
  clear p0 p1 p2 p3 p4 p5 lp HFi
  have HDo4 := hide (do_form _ l9D4 24 none 0 w6 HQ6.out.r l9_sz4 l9_w4)
  go_upto_region 5 with (go_at_call 16; refine Calls.mono HDo4.out ?_; rintro e w7 ⟨⟨V7, rfl, hq7⟩, hb7⟩; obtain ⟨AE7, cE7, AW7, cW7, rfl, _, _⟩ := hq7; have HQ7 := hide (HQ6.out.keep hb7); have HK7 := hide (HK6.out.keep hb7); have HO7 := hide (own_keep HO6.out hb7); have HL7 := hide (own_keep HL6.out hb7); have HB7 := hide (HB6.out.trans (hb7.mono HB6.out.size)); clear hb7)
  clear x0 x1 x2 x3 x4 x5 lx HDo4
  obtain ⟨W8, hW8⟩ : ∃ W8, W8 = w7.alloc (.cells #[.int .i64 l9D4.size, .slice AE7 l9D4.exts.length cE7, .slice AW7 l9D4.waits.length cW7, .int .i64 l9D4.fuse, .bool l9D4.down, .int .i64 24] 27) := ⟨_, rfl⟩
  rw [← hW8]
  have hb8 : Below w7.heap.size w7 W8 := by rw [hW8]; exact ba1 _ _
  have k8 := HK7.out.keep hb8
  have y0 := k8.cell 0
  have y1 := k8.cell 1
  have y2 := k8.cell 2
  have y3 := k8.cell 3
  have y4 := k8.cell 4
  have y5 := k8.cell 5
  have ly := k8.lt
  have HQ8 := hide (HQ7.out.keep hb8)
  have HK8 := hide k8
  have HO8 := hide (own_keep HO7.out hb8)
  have HL8 := hide (own_keep HL7.out hb8)
  have HB8 := hide (HB7.out.trans (hb8.mono HB7.out.size))
  clear k8 hb8 hW8 HQ7 HK7 HO7 HL7 HB7
  have HDo5 := hide (do_budget _ l9D4 24 30 none 0 W8 HQ8.out.r l9_sz4 l9_w4 (by decide))
  go_upto_region 6 with (go_at_call 16; refine Calls.mono HDo5.out ?_; rintro e w9 ⟨⟨V9, rfl, hq9⟩, hb9⟩; have HQQ9 := hide hq9; obtain ⟨AE9, cE9, AW9, cW9, rfl, _, _⟩ := hq9; have HQ9 := hide (HQ8.out.keep hb9); have HK9 := hide (HK8.out.keep hb9); have HO9 := hide (own_keep HO8.out hb9); have HL9 := hide (own_keep HL8.out hb9); have HB9 := hide (HB8.out.trans (hb9.mono HB8.out.size)); clear hb9)
  clear y0 y1 y2 y3 y4 y5 ly HDo5
  obtain ⟨W10, hW10⟩ : ∃ W10, W10 = w9.alloc (.cells #[.int .i64 l9D4.size, .slice AE9 l9D4.exts.length cE9, .slice AW9 l9D4.waits.length cW9, .int .i64 l9D4.fuse, .bool l9D4.down, .int .i64 30] 27) := ⟨_, rfl⟩
  rw [← hW10]
  have hb10 : Below w9.heap.size w9 W10 := by rw [hW10]; exact ba1 _ _
  have kx10 : Bk W10 w9.heap.size 27 #[.int .i64 l9D4.size, .slice AE9 l9D4.exts.length cE9, .slice AW9 l9D4.waits.length cW9, .int .i64 l9D4.fuse, .bool l9D4.down, .int .i64 30] := by rw [hW10]; exact Bk.new _ _ _
  have k10 := HK9.out.keep hb10
  have y0 := k10.cell 0
  have y1 := k10.cell 1
  have y2 := k10.cell 2
  have y3 := k10.cell 3
  have y4 := k10.cell 4
  have y5 := k10.cell 5
  have ly := k10.lt
  have HQQ10 := hide (HQQ9.out.keep hb10)
  have HKX10 := hide kx10
  have HQ10 := hide (HQ9.out.keep hb10)
  have HK10 := hide k10
  have HO10 := hide (own_keep HO9.out hb10)
  have HL10 := hide (own_keep HL9.out hb10)
  have HB10 := hide (HB9.out.trans (hb10.mono HB9.out.size))
  clear k10 kx10 hb10 hW10 HQ9 HK9 HO9 HL9 HB9 HQQ9
  have HDo6 := hide (do_range _ l9D4 24 ⟨#[61, 109]⟩ ⟨#[]⟩ none 0 W10 HQ10.out.r l9_sz4 l9_w4 (by decide) (by decide) l9_mayno)
  go_upto_region 7 with (go_at_call 16; refine Calls.mono HDo6.out ?_; rintro e w11 ⟨⟨V11, rfl, hq11⟩, hb11⟩; obtain ⟨AE11, cE11, AW11, cW11, rfl, _, _⟩ := hq11; have HQQ11 := hide (HQQ10.out.keep hb11); have HKX11 := hide (HKX10.out.keep hb11); have HO11 := hide (own_keep HO10.out hb11); have HL11 := hide (own_keep HL10.out hb11); have HB11 := hide (HB10.out.trans (hb11.mono HB10.out.size)); clear hb11)
  clear y0 y1 y2 y3 y4 y5 ly HDo6 HQ10 HK10
  obtain ⟨W12, hW12⟩ : ∃ W12, W12 = w11.alloc (.cells #[.int .i64 l9D4.size, .slice AE11 l9D4.exts.length cE11, .slice AW11 l9D4.waits.length cW11, .int .i64 l9D4.fuse, .bool l9D4.down, .int .i64 24] 27) := ⟨_, rfl⟩
  rw [← hW12]
  have hb12 : Below w11.heap.size w11 W12 := by rw [hW12]; exact ba1 _ _
  have HQQ12 := hide (HQQ11.out.keep hb12)
  have HKX12 := hide (HKX11.out.keep hb12)
  have HO12 := hide (own_keep HO11.out hb12)
  have HL12 := hide (own_keep HL11.out hb12)
  have HB12 := hide (HB11.out.trans (hb12.mono HB11.out.size))
  clear hb12 hW12 HQQ11 HKX11 HO11 HL11 HB11
  go_upto_region 8 with (go_at_call 7; refine Calls.mono (HMk2.out _) ?_; rintro e w13 ⟨⟨V13, rfl, hq13⟩, hb13⟩; obtain ⟨AE13, cE13, AW13, cW13, rfl, _, _⟩ := hq13; have HQQ13 := hide (HQQ12.out.keep hb13); have HKX13 := hide (HKX12.out.keep hb13); have HO13 := hide (own_keep HO12.out hb13); have HL13 := hide (own_keep HL12.out hb13); have HB13 := hide (HB12.out.trans (hb13.mono HB12.out.size)); clear hb13)
  obtain ⟨W14, hW14⟩ : ∃ W14, W14 = w13.alloc (.cells #[.int .i64 zeroD.size, .slice AE13 zeroD.exts.length cE13, .slice AW13 zeroD.waits.length cW13, .int .i64 zeroD.fuse, .bool zeroD.down, .int .i64 0] 27) := ⟨_, rfl⟩
  rw [← hW14]
  have hb14 : Below w13.heap.size w13 W14 := by rw [hW14]; exact ba1 _ _
  obtain ⟨W15, hW15⟩ : ∃ W15, W15 = W14.alloc (.cells #[.string ⟨#[98]⟩, .string ⟨#[99]⟩] 9) := ⟨_, rfl⟩
  have hb15 : Below W14.heap.size W14 W15 := by rw [hW15]; exact ba1 _ _
  have k15 : Bk W15 W14.heap.size 9 #[.string ⟨#[98]⟩, .string ⟨#[99]⟩] := by rw [hW15]; exact Bk.new _ _ _
  have hl15 := own_rdk (own_keep (own_keep HL13.out hb14) hb15)
  have hsn := samenames_any A6 (some ⟨W14.heap.size, 0, none⟩) c6 2 [⟨#[98]⟩, ⟨#[99]⟩] W15 hl15 (fun i u hu => ⟨W14.heap.size, 0, rfl, k15.lt, by
    rw [Nat.zero_add]
    exact (k15.cell i).trans (by rw [← Array.getElem?_toList]; exact hu)⟩) (by decide)
  have HSn := hide (show Calls Tryz.prog 10 #[.slice A6 2 c6, .slice (some ⟨W14.heap.size, 0, none⟩) 2 2] W15 fun e w' => e = .returned (.bool true) ∧ Below W15.heap.size W15 w' from hsn)
  have ho14 := own_keep HO13.out hb14
  obtain ⟨gT, rfl, hcT⟩ := own_some ho14 (by decide)
  have t4 := ho14.cells (g := gT) rfl 4 _ rfl
  rw [Addr.add_lit] at t4
  simp only [Nat.zero_add] at t4
  have lT := own_lt ho14 gT rfl
  have HW15 := hide hW15
  have hck := fun W (h : WvQ W (.agg #[.int .i64 l9D4.size, .slice AE9 l9D4.exts.length cE9, .slice AW9 l9D4.waits.length cW9, .int .i64 l9D4.fuse, .bool l9D4.down, .int .i64 30]) l9D4 30) => wcheck_any _ l9D4 30 W h.r l9_sz4
  rw [l9_w5] at hck
  have HCk := hide hck
  have HQQ15 := hide ((HQQ13.out.keep hb14).keep hb15)
  have kx15 := (HKX13.out.keep hb14).keep hb15
  have HKX15 := hide kx15
  have HB15 := hide ((HB13.out.trans (hb14.mono HB13.out.size)).trans (hb15.mono (Nat.le_trans HB13.out.size hb14.size)))
  have hT4 : (l9T 4).toList = [120, 121, 120] := by decide +kernel
  clear hb14 hb15 k15 hl15 hsn ho14 hW15 hW14 hck kx15 HQQ13 HKX13 HO13 HL13 HB13
  go_wp2_with (first
    | (go_at_call 10; rw [← HW15.out]; refine Calls.mono HSn.out ?_; rintro e w16 ⟨rfl, hb16⟩; have kx16 := HKX15.out.keep hb16; have z0 := kx16.cell 0; have z1 := kx16.cell 1; have z2 := kx16.cell 2; have z3 := kx16.cell 3; have z4 := kx16.cell 4; have z5 := kx16.cell 5; have lz := kx16.lt; have HQQ16 := hide (HQQ15.out.keep hb16); have HB16 := hide (HB15.out.trans (hb16.mono HB15.out.size)); clear hb16 kx16)
    | (go_at_call 12; refine Calls.mono (HCk.out _ HQQ16.out) ?_; rintro e w17 ⟨rfl, hb17⟩; have HB17 := hide (HB16.out.trans (hb17.mono HB16.out.size)); clear hb17))
  go_ret
  exact ⟨by simp, HB17.out⟩
end Go.Proofs.YtmbonieeapbpoaaGreatDoor
/- Walks: (*disk.Dev).settle under the closure of disk.Crash; disk.Crash (printed by gen_wlh.py). -/
namespace Go.Proofs.YtmbonieeapbpoaaGreatDoor
open Go.RowKit Go.Sort

def partK (K : Nat → Bool) (ws : List Wt) (l : List Ext) (i : Nat) : List Ext := (l.take i).map (settleE K 0 ws) ++ l.drop i
theorem partK_get {K : Nat → Bool} {ws : List Wt} {l : List Ext} {i : Nat} {x : Ext} (h : l[i]? = some x) : (partK K ws l i)[i]? = some x := by
  have hi := (List.getElem?_eq_some_iff.1 h).1
  unfold partK
  rw [List.getElem?_append_right (by simp; omega)]
  simp
  rw [show min i l.length = i by omega, Nat.sub_self, Nat.add_zero]
  exact h
theorem partK_next {K : Nat → Bool} {ws : List Wt} {l : List Ext} {i : Nat} {x : Ext} (h : l[i]? = some x) : partK K ws l (i + 1) = (partK K ws l i).set i (settleE K 0 ws x) := by
  have hi := (List.getElem?_eq_some_iff.1 h).1
  unfold partK
  rw [List.take_add_one, h, List.set_append_right _ _ (by simp; omega)]
  have e : i - ((l.take i).map (settleE K 0 ws)).length = 0 := by simp; omega
  rw [e, List.drop_eq_getElem_cons hi, List.set_cons_zero]
  simp
theorem partK_all (K : Nat → Bool) (ws : List Wt) (l : List Ext) : partK K ws l l.length = l.map (settleE K 0 ws) := by unfold partK; simp
theorem settle_stepK {K : Nat → Bool} {ws : List Wt} {k : Nat} {y : Wt} {acc : Ext} {r : Ext} (h : r = settleE K k (ws.drop k) acc) (hy : ws[k]? = some y) : r = settleE K (k + 1) (ws.drop (k + 1)) (if y.nm = acc.nm ∧ K k = true then ⟨acc.nm, lay acc.dt (64 * y.sec.toNat) y.dt⟩ else acc) := by
  obtain ⟨hk, e⟩ := List.getElem?_eq_some_iff.1 hy
  rw [List.drop_eq_getElem_cons hk, e] at h
  rw [h]
  conv => lhs; unfold settleE
  simp
set_option maxRecDepth 100000 in
theorem keepC (keep : List Bool) (A : Option Addr) (c kb i nk : Nat) (W : World) (hk : Bk W kb 39 #[.slice A keep.length c]) (hr : Rd W nk A (keep.map .bool)) :
    Calls Tryz.prog 61 #[.int .i64 (i : Nat), .pointer (some ⟨kb, 0, none⟩)] W fun e w' => e = .returned (.bool (keep.getD i false)) ∧ w' = W := by
  have c0 := hk.cell 0
  have lk := hk.lt
  by_cases hi : i < keep.length
  · obtain ⟨x, hx⟩ : ∃ x, keep[i]? = some x := ⟨keep[i], List.getElem?_eq_getElem hi⟩
    obtain ⟨b, o, rfl, hb, hc⟩ := hr i (.bool x) (by rw [List.getElem?_map, hx]; rfl)
    have hg : keep.getD i false = x := by rw [List.getD_eq_getElem?_getD, hx]; rfl
    rw [hg]
    have hil : (i : Int) < (keep.length : Int) := by omega
    clear hx hg hr hk
    go_enter Tryz.func61, Tryz.ntmps61
    go_wp2_with fail
    go_ret
    exact ⟨rfl, rfl⟩
  · have hg : keep.getD i false = false := by rw [List.getD_eq_getElem?_getD, List.getElem?_eq_none (by omega)]; rfl
    rw [hg]
    have hil : ¬ (i : Int) < (keep.length : Int) := by omega
    clear hg hr hk
    go_enter Tryz.func61, Tryz.ntmps61
    go_wp2_with fail
    go_ret
    exact ⟨rfl, rfl⟩
set_option maxRecDepth 100000 in
set_option maxHeartbeats 8000000 in
theorem settle_crash (B : Fld) (q : Nat) (d : Dsk) (keep : List Bool) (A : Option Addr) (c kb nk : Nat) (w : World) (hd : DvAt w B q d) (hr : Right d) (hkb : Bk w kb 39 #[.slice A keep.length c]) (hkr : Rd w nk A (keep.map .bool)) (hnk : ∀ g, g < nk → ¬ B.ok g) (hnw : nk ≤ w.heap.size) :
    Calls Tryz.prog 60 #[.pointer (some ⟨q, 0, none⟩), .func (.func 61) #[] #[.pointer (some ⟨kb, 0, none⟩)]] w fun e w' => e = .returned (.tuple #[]) ∧ DvAt w' B q (settleD (fun i => keep.getD i false) d) ∧ AFr DTy B w w' := by
  obtain ⟨E, W, hk, hE, hW, hqf⟩ := hd
  obtain ⟨AE, cE, rfl⟩ := own_formk hE
  obtain ⟨AW, cW, rfl⟩ := own_formk hW
  have hq := hqf.1
  have hlen := hr.len
  have hnw := hr.nwaits
  have HR := hide hr
  have HK := hide hk
  have HE := hide hE
  have HW := hide hW
  have HQF := hide hqf
  have HKb := hide hkb
  have HKr := hide hkr
  have HNk := hide hnk
  obtain ⟨c0, c1, c2, c3, c4⟩ := five_cells hk
  have q22 : ∀ (w : World) (a : Option Addr) (n c n' c' : Nat), (binOp .eql 133 (.slice a n c) (.slice none n' c')).run Tryz.prog w = .ok (.bool a.isNone) w := fun w a n c n' c' => Lib.run_eql_slice_nil w _ _ a n c n' c' Tryz.underlying133
  clear hr hk hE hW hqf hkb hkr hnk
  go_enter Tryz.func60, Tryz.ntmps60
  go_wp2_with fail
  go_loopw [15] (fun s15 wr => ∃ i : Nat, s15 = .int .i64 i ∧ i ≤ d.exts.length ∧ Hid (Bk wr q 115 #[.int .i64 d.size, .slice AE d.exts.length cE, .slice AW d.waits.length cW, .int .i64 d.fuse, .bool d.down]) ∧ Hid (wr.ownsRow 0 49 2 (.slice AE d.exts.length cE) d.exts.length (flatE (partK (fun i => keep.getD i false) d.waits d.exts i))) ∧ Hid (wr.ownsRow 0 77 3 (.slice AW d.waits.length cW) d.waits.length (flatW d.waits)) ∧ Hid (AFr DTy B w wr)) (fun s15 _ => d.exts.length - (intOf s15).toNat)
  case atStart => exact ⟨0, rfl, by omega, HK, HE, HW, hide (AFr.refl _ _ _)⟩
  case round =>
    clear HK HE HW c0 c1 c2 c3 c4
    obtain ⟨wO, rfl⟩ : ∃ wO, wO = wr := ⟨wr, rfl⟩
    obtain ⟨i, rfl, hi, HK, HE, HW, HF⟩ := hrel
    obtain ⟨c0, c1, c2, c3, c4⟩ := five_cells HK.out
    have hql := HK.out.lt
    have hkbO := HKb.out.afr HF.out (by unfold DTy; decide)
    have hkrO := HKr.out.afr HF.out HNk.out
    have hzO := HF.out.size
    have hkp := fun (W : World) (i : Nat) (h : Below wO.heap.size wO W) => keepC keep A c kb i nk W (hkbO.keep h) (hkrO.below (h.mono (by omega)))
    have HKp := hide hkp
    clear hkbO hkrO hkp
    by_cases hlt : i < d.exts.length
    · obtain ⟨x, hx⟩ : ∃ x, d.exts[i]? = some x := ⟨d.exts[i], List.getElem?_eq_getElem hlt⟩
      obtain ⟨gE, rfl, hcE⟩ := own_some HE.out (by omega)
      have hrdE := own_rdk HE.out
      obtain ⟨b, o, e0, hb, e1, e2⟩ := ext_cells hrdE (partK_get (K := (fun i => keep.getD i false)) (ws := d.waits) hx)
      cases e0
      rw [Nat.zero_add] at e1 e2
      have hxs := HR.out.ext_size (List.mem_of_getElem? hx)
      have hfit := fun (y : Wt) (hy : y ∈ d.waits) (e : y.nm = x.nm) => wait_fits HR.out hy (List.mem_of_getElem? hx) e
      have HFit := hide hfit
      have HX := hide hx
      clear hx hrdE hfit
      go_wp2_with fail
      go_loopw [6, 26] (fun s6 s26 wi => ∃ (k : Nat) (acc : Ext), s26 = .int .i64 k ∧ k ≤ d.waits.length ∧ Hid (settleE (fun i => keep.getD i false) 0 d.waits x = settleE (fun i => keep.getD i false) k (d.waits.drop k) acc) ∧ Hid (acc.nm = x.nm) ∧ Hid (acc.dt.size = x.dt.size) ∧ Hid (Bk wi wO.heap.size 49 #[.string x.nm, .string x.dt]) ∧ Hid (Below wO.heap.size wO wi) ∧ (∃ ag na ca, s6 = .slice ag na ca ∧ Hid ((ag = none ∧ na = 0 ∧ ca = 0 ∧ acc = x) ∨ ∃ g, ag = some ⟨g, 0, none⟩ ∧ na = x.dt.size ∧ x.dt.size ≤ ca ∧ wO.heap.size < g ∧ Hs wi g acc.dt))) (fun _ s26 _ => d.waits.length - (intOf s26).toNat)
      case atStart => exact ⟨0, x, rfl, by omega, hide rfl, hide rfl, hide rfl, hide (Bk.new _ _ _), hide (ba1 _ _), none, 0, 0, rfl, hide (.inl ⟨rfl, rfl, rfl, rfl⟩)⟩
      case round =>
        obtain ⟨k, acc, rfl, hk, hst, han, hsz, hbx, hbw, ag, na, ca, rfl, hdat⟩ := hrel
        obtain ⟨x0, x1⟩ := two_cells hbx.out
        have hxl := hbx.out.lt
        have hKi := HK.out.keep hbw.out
        have hqi := hKi.lt
        obtain ⟨d0, d1, d2, d3, d4⟩ := five_cells hKi
        have HKi := hide hKi
        clear hKi
        by_cases hlt2 : k < d.waits.length
        · obtain ⟨y, hy⟩ : ∃ y, d.waits[k]? = some y := ⟨d.waits[k], List.getElem?_eq_getElem hlt2⟩
          obtain ⟨bw, ow, rfl, hbl, u1, u2, u3⟩ := wt_cells (own_rdk (own_keep HW.out hbw.out)) hy
          have hstep := settle_stepK hst.out hy
          rw [han.out] at hstep
          have HStep := hide hstep
          have hmy := List.mem_of_getElem? hy
          have HMy := hide hmy
          clear hstep hy hmy
          by_cases hn : y.nm = x.nm
          · obtain ⟨u, hu⟩ : ∃ u, u = keep.getD k false := ⟨_, rfl⟩
            have hkp := fun W h => HKp.out W k h
            rw [← hu] at hkp
            have HKc := hide hkp
            have HU := hide hu
            clear hkp hu
            cases u with
            | false =>
              have f4 : (x.nm.toList == x.nm.toList) = true := by simp
              rw [hn] at u1
              have hstep := HStep.out
              rw [if_neg (fun e => by have := HU.out; rw [e.2] at this; cases this)] at hstep
              have HSt := hide hstep
              clear HStep hstep hn
              go_wp2_with (go_at_call 61; refine Calls.mono (HKc.out _ (btrans hbw.out (ba1 _ _))) ?_; rintro e wz ⟨rfl, ewz⟩; subst ewz)
              refine ⟨⟨k + 1, acc, by simp, by omega, HSt, han, hsz, hide (hbx.out.alloc _), hide (btrans hbw.out (ba1 _ _)), ag, na, ca, rfl, hide ?_⟩, by simp [intOf]; omega⟩
              rcases hdat.out with h | ⟨g, r1, r2, r3, r4, r5⟩
              · exact .inl h
              · exact .inr ⟨g, r1, r2, r3, r4, r5.alloc _⟩
            | true =>
              obtain ⟨f1, f2, f3⟩ := HFit.out y HMy.out hn
              rw [hn] at u1
              have hstep := HStep.out
              rw [if_pos ⟨hn, HU.out.symm⟩] at hstep
              have HSt := hide hstep
              clear HStep hstep hn
              obtain ⟨t, ht⟩ : ∃ t : Nat, y.sec = (t : Int) := ⟨y.sec.toNat, by omega⟩
              rw [ht] at u2 f1 f3
              have ht2 : y.sec.toNat = t := by omega
              rw [ht2] at HSt
              rw [Int.toNat_natCast] at f3
              clear ht ht2
              have f4 : (x.nm.toList == x.nm.toList) = true := by simp
              have hcv : ∀ W : World, (convert 9 133 (.string x.dt)).run Tryz.prog W = .ok (.slice (some ⟨W.heap.size, 0, none⟩) x.dt.size (grownCap W x.dt.size 0 5)) (Lib.bytesWorld W 5 x.dt) := fun W => Lib.run_convert_string_bytes W 9 133 5 x.dt Tryz.underlying9 Tryz.underlying133 Tryz.underlying5
              go_upto_if 43 with (go_at_call 61; refine Calls.mono (HKc.out _ (btrans hbw.out (ba1 _ _))) ?_; rintro e wz ⟨rfl, ewz⟩; subst ewz)
              go_cut [6] (fun s6 wx => ∃ g c, s6 = .slice (some ⟨g, 0, none⟩) x.dt.size c ∧ x.dt.size ≤ c ∧ wO.heap.size < g ∧ Hid (Hs wx g acc.dt) ∧ Bk wx wO.heap.size 49 #[.string x.nm, .string x.dt] ∧ Bk wx wr.heap.size 77 #[.string x.nm, .int .i64 t, .string y.dt] ∧ Below wO.heap.size wO wx)
              case first =>
                rcases hdat.out with ⟨rfl, rfl, rfl, rfl⟩ | ⟨g, rfl, rfl, hc, hg, hHs⟩
                · have HBx := hide hbx.out
                  have hw1 := hbw.out.size
                  go_wp2_with fail
                  go_meet
                  have hby := bytes_below (wr.alloc (.cells #[.string acc.nm, .int .i64 (t : Int), .string y.dt] 77)) 5 acc.dt
                  have hs1 : (wr.alloc (.cells #[.string acc.nm, .int .i64 (t : Int), .string y.dt] 77)).heap.size = wr.heap.size + 1 := by simp
                  have hnew := Hs.new (wr.alloc (.cells #[.string acc.nm, .int .i64 (t : Int), .string y.dt] 77)) 5 acc.dt
                  rw [hs1] at hnew
                  refine ⟨wr.heap.size + 1, grownCap (wr.alloc (.cells #[.string acc.nm, .int .i64 (t : Int), .string y.dt] 77)) acc.dt.size 0 5, by simp, grow_le _ _ _ _, by omega, hide hnew, ((HBx.out.alloc _).keep hby), (Bk.new _ _ _).keep hby, btrans (btrans hbw.out (ba1 _ _)) hby⟩
                · have HHs := hide hHs
                  have HBx := hide hbx.out
                  have hgl := hHs.lt_ (by rw [hsz.out]; omega)
                  clear hHs
                  go_wp2_with fail
                  go_meet
                  exact ⟨g, ca, rfl, hc, hg, hide (HHs.out.keep (ba1 _ _) hgl), HBx.out.alloc _, Bk.new _ _ _, btrans hbw.out (ba1 _ _)⟩
              case rest =>
                obtain ⟨g, c, rfl, hc, hg, hHs, hbx3, hby3, hbw3⟩ := hcut
                obtain ⟨v0, v1, v2⟩ := cells3 hby3
                have hlt3 := hby3.lt
                obtain ⟨a, ha⟩ : ∃ a, a = 64 * t := ⟨_, rfl⟩
                have wa : IntKind.i64.wrap (64 * (t : Int)) = (a : Int) := by rw [IntWalk.i64_in _ ⟨by omega, by omega⟩]; omega
                have hax : a ≤ x.dt.size := by omega
                have hcp : y.dt.size ≤ x.dt.size - a := by omega
                have hfa : a + y.dt.size ≤ acc.dt.size := by rw [hsz.out]; omega
                have hHs2 := HsP hHs.out hfa
                have HHs := hide hHs.out
                rw [← ha] at HSt
                have HCp1 := hide hHs2.1
                have HCp2 := hide hHs2.2
                have HBx3 := hide hbx3
                have HBw3 := hide hbw3
                have hne : ¬ (c = a) := by omega
                have HSz := hide (show (lay acc.dt a y.dt).size = x.dt.size from (lay_size hfa).trans hsz.out)
                have HLay := hide ((show Hs wc.drew g acc.dt from hHs.out).lay_ hfa)
                clear ha hHs hHs2 hbx3 hby3 hbw3 f1 hfa
                go_upto_region 10 with (fail)
                go_region_law (
                  refine step_copy_string rfl (.tmp 51) (.tmp 53) 133 9 rfl 5 Tryz.underlying133 Tryz.sizeOf5 g a (x.dt.size - a) (c - a) ?_ y.dt ?_ hcp HCp1.out HCp2.out ?_
                  · simp [Act.eval, Act.put]
                  · simp [Act.eval, Act.put]
                  have hz0 := HBw3.out.size)
                all_goals
                  obtain ⟨W5, hW5⟩ : ∃ W, W = wc.drew.setCells g a (y.dt.data.toList.map fun x => Value.int .u8 (x.toNat : Int)) := ⟨_, rfl⟩
                  have hL5 := HLay.out
                  have hB5 := below_setCells (B := g) (b := g) (a := wc) (Nat.le_refl _) (y.dt.data.toList.map fun x => Value.int .u8 (x.toNat : Int)) a wc.drew ((Below.refl _ _).drew)
                  rw [← hW5] at hL5 hB5 ⊢
                  have HL5 := hide hL5
                  have HB5 := hide hB5
                  clear hL5 hB5 hW5
                  go_wp2_with fail
                  exact ⟨⟨k + 1, ⟨acc.nm, lay acc.dt a y.dt⟩, by go_num, by omega, hide (by rw [han.out]; exact HSt.out), han, HSz, hide (HBx3.out.below HB5.out hg), hide (HBw3.out.trans (HB5.out.mono (by omega))), _, _, _, rfl, hide (.inr ⟨g, rfl, rfl, hc, hg, HL5.out⟩)⟩, by simp [intOf]; omega⟩
          · have f4 : (y.nm.toList == x.nm.toList) = false := by
              have : ¬ y.nm.toList = x.nm.toList := fun h => hn (toList_inj' h)
              simp [this]
            have hstep := HStep.out
            rw [if_neg (fun e => hn e.1)] at hstep
            have HSt := hide hstep
            clear HStep hstep hn
            go_wp2_with fail
            refine ⟨⟨k + 1, acc, by simp, by omega, HSt, han, hsz, hide (hbx.out.alloc _), hide (btrans hbw.out (ba1 _ _)), ag, na, ca, rfl, hide ?_⟩, by simp [intOf]; omega⟩
            rcases hdat.out with h | ⟨g, r1, r2, r3, r4, r5⟩
            · exact .inl h
            · exact .inr ⟨g, r1, r2, r3, r4, r5.alloc _⟩
        · obtain rfl : k = d.waits.length := by omega
          have hacc : settleE (fun i => keep.getD i false) 0 d.waits x = acc := by rw [hst.out, List.drop_length]; rfl
          have HAcc := hide hacc
          clear hst hacc
          rcases hdat.out with ⟨rfl, rfl, rfl, rfl⟩ | ⟨g, rfl, rfl, hc, hg, hHs⟩
          · go_wp2_with fail
            have hnext := partK_next (K := (fun i => keep.getD i false)) HX.out (ws := d.waits)
            rw [HAcc.out] at hnext
            have hsame : partK (fun i => keep.getD i false) d.waits d.exts (i + 1) = partK (fun i => keep.getD i false) d.waits d.exts i := by
              rw [hnext]
              exact List.set_getElem_self_of (partK_get (K := (fun i => keep.getD i false)) (ws := d.waits) HX.out)
            refine ⟨⟨i + 1, by simp, by omega, HKi, hide ?_, hide (own_keep HW.out hbw.out), hide (HF.out.trans (AFr.below hbw.out))⟩, by simp [intOf]; omega⟩
            rw [hsame]; exact own_keep HE.out hbw.out
          · have HBw := hide hbw.out
            have HHs := hide hHs
            have HOi := hide (own_keep HE.out hbw.out)
            have hcv2 := conv_text (c := ca) (show Hs wr.drew g acc.dt from hHs) hsz.out
            have hEi := own_rdk (own_keep HE.out hbw.out)
            obtain ⟨b', o', e0', hb', e1', e2'⟩ := ext_cells hEi (partK_get (K := (fun i => keep.getD i false)) (ws := d.waits) HX.out)
            cases e0'
            rw [Nat.zero_add] at e1' e2'
            have hfz := own_free (i := i * 2 + 1) HOi.out
            clear hHs hEi
            go_upto_region 13 with (fail)
            refine wp_region_still_tail 10 (by kernel_rfl) (by kernel_rfl) ?_
            simp only [List.take_succ_cons, List.take_zero, List.drop_succ_cons, List.drop_zero]
            change wpStill _ _ wr.drew _ _ _
            repeat still_step
            refine wpStill_nil ?_
            change wpList _ _ _ _ _ wr.drew
            go_wp2_with fail
            have hnext := partK_next (K := (fun i => keep.getD i false)) HX.out (ws := d.waits)
            rw [HAcc.out] at hnext
            have hput := flatE_put acc.dt (partK_get (K := (fun i => keep.getD i false)) (ws := d.waits) HX.out)
            have hacc2 : (⟨x.nm, acc.dt⟩ : Ext) = acc := by rw [← han.out]
            rw [hacc2, ← hnext] at hput
            obtain ⟨hgE, cur, hbkE⟩ := own_bk HOi.out
            have hO3 := own_putk (i := i * 2 + 1) HOi.out (.string acc.dt)
            rw [hput] at hO3
            refine ⟨⟨i + 1, by simp, by omega, hide ((HKi.out.far (p := ⟨gE, i * 2 + 1, none⟩) (fun e => own_ne HOi.out HKi.out (by decide) (by rw [e]; rfl)) _).drew), hide hO3, hide (own_set (own_keep HW.out HBw.out) (p := ⟨gE, i * 2 + 1, none⟩) (fun e => own_apart (own_keep HW.out HBw.out) HOi.out (by decide) e rfl) _), hide ((HF.out.trans (AFr.below HBw.out)).set_ hbkE (hq.exts gE rfl) (by unfold DTy; simp) _ _).drew⟩, by simp [intOf]; omega⟩
    · obtain rfl : i = d.exts.length := by omega
      have hE2 := HE.out
      rw [partK_all] at hE2
      have HE2 := hide hE2
      have g2 := HK.out.free 2
      clear hE2
      go_wp2_with fail
      go_end0
      have k3 := HK.out.set_ 2 (.slice none 0 0)
      refine ⟨rfl, ?_, HF.out.set_ HK.out hq.dev (by unfold DTy; simp) 2 _⟩
      refine ⟨.slice AE d.exts.length cE, .slice none 0 0, k3, ?_, World.ownsRow_nil _ _ _ _, ⟨hq.dev, hq.exts, fun g hg => by simp [Value.ownBlock] at hg, by have := HF.out.size; have := hq.top; rw [size_setCell]; omega⟩, HQF.out.2⟩
      have h3 := own_set HE2.out (p := ⟨q, 2, none⟩) (fun e => own_ne HE2.out HK.out (by decide) e.symm) (.slice none 0 0)
      show World.ownsRow _ 0 _ 2 _ (d.exts.map _).length _
      rw [List.length_map]
      exact h3
end Go.Proofs.YtmbonieeapbpoaaGreatDoor
/- Walk: disk.Crash of a right disk. -/
namespace Go.Proofs.YtmbonieeapbpoaaGreatDoor
open Go.RowKit Go.Sort

theorem put34_bk {w : World} {b : Nat} {t : TypeId} {z0 z1 z2 z3 z4 : Value} (h : Bk w b t #[z0, z1, z2, z3, z4]) (a4 a3 : Value) : Bk ((w.setCell ⟨b, 4, none⟩ a4).setCell ⟨b, 3, none⟩ a3) b t #[z0, z1, z2, a3, a4] := (h.set_ 4 a4).set_ 3 a3
set_option maxRecDepth 100000 in
set_option maxHeartbeats 8000000 in
theorem crash_any (v : Value) (d : Dsk) (keep : List Bool) (A : Option Addr) (c : Nat) (w : World) (hv : Dv w w.heap.size v d) (hz : SzD d) (hc : checkB d = true) (hk : Rd w w.heap.size A (keep.map .bool)) :
    Calls Tryz.prog 37 #[v, .slice A keep.length c] w (PutA w (crashD keep d, 0)) := by
  have hck := fun (W : World) (h : Below w.heap.size w W) => check_disk v d W ((hv.below h).more h.size) hz.exts hz.waits hz.ext hz.wait
  rw [check_ok hc] at hck
  have how := fun (W : World) (h : Below w.heap.size w W) => own_any v d W ((hv.below h).more h.size) hz.exts hz.waits
  have hri := checkB_iff.1 hc
  obtain ⟨AE, cE, AW, cW, rfl, hE, hW⟩ := hv
  obtain ⟨W0, hW0⟩ : ∃ W0, W0 = ((w.alloc (.cells #[.int .i64 d.size, .slice AE d.exts.length cE, .slice AW d.waits.length cW, .int .i64 d.fuse, .bool d.down] 25)).alloc (.cells #[.slice A keep.length c] 39)).alloc (.cells #[.int .i64 0, .slice none 0 0, .slice none 0 0, .int .i64 0, .bool false] 25) := ⟨_, rfl⟩
  have hb0 : Below w.heap.size w W0 := by rw [hW0]; exact btrans (ba2 _ _ _) (ba1 _ _)
  have kp0 : Bk W0 w.heap.size 25 #[.int .i64 d.size, .slice AE d.exts.length cE, .slice AW d.waits.length cW, .int .i64 d.fuse, .bool d.down] := by rw [hW0]; exact ((Bk.new _ _ _).alloc _).alloc _
  have kk0 : Bk W0 (w.heap.size + 1) 39 #[.slice A keep.length c] := by rw [hW0]; exact (Bk.new1 _ _ _ _).alloc _
  have kr0 : Bk W0 (w.heap.size + 1 + 1) 25 #[.int .i64 0, .slice none 0 0, .slice none 0 0, .int .i64 0, .bool false] := by rw [hW0]; exact Bk.new2 _ _ _ _ _
  obtain ⟨p0, p1, p2, p3, p4⟩ := five_cells kp0
  have lp := kp0.lt
  have HCk := hide (hck W0 hb0)
  have HOw := hide how
  have HW0 := hide (show _ = W0 from hW0.symm)
  have HB0 := hide hb0
  have HP0 := hide kp0
  have HK0 := hide kk0
  have HR0 := hide kr0
  have HRi := hide hri
  have HKr := hide hk
  have HFu := hide hz.fuse
  clear hck how hE hW hW0 hb0 kp0 kk0 kr0 hri hk hz hc
  go_enter Tryz.func37, Tryz.ntmps37
  go_upto_region 1 with fail
  rw [HW0.out]
  go_upto_region 5 with (first
    | (have hn0 := HB1; clear hn0; go_at_call 44; refine Calls.mono (HOw.out _ HB1.out) ?_; rintro e w2 ⟨⟨A2, c2, A3, c3, rfl, o1, o2⟩, hb2⟩; have HK2 := hide (HK1.out.keep hb2); have HR2 := hide (HR1.out.keep hb2); have HO1 := hide o1; have HO2 := hide o2; have HB2 := hide (HB1.out.trans (hb2.mono HB1.out.size)); have hz2 := hb2.size; clear hb2 o1 o2)
    | (go_at_call 24; refine Calls.mono HCk.out ?_; rintro e w1 ⟨rfl, hb1⟩; have kp1 := HP0.out.keep hb1; obtain ⟨x0, x1, x2, x3, x4⟩ := five_cells kp1; have lx := kp1.lt; have HK1 := hide (HK0.out.keep hb1); have HR1 := hide (HR0.out.keep hb1); have HB1 := hide (HB0.out.trans (hb1.mono HB0.out.size)); have hz1 := hb1.size; clear hb1 kp1))
  obtain ⟨W3, hW3⟩ : ∃ W3, W3 = w2.alloc (.cells #[.int .i64 d.size, .slice A2 d.exts.length c2, .slice A3 d.waits.length c3, .int .i64 d.fuse, .bool d.down] 115) := ⟨_, rfl⟩
  rw [← hW3]
  have hb3 : Below w2.heap.size w2 W3 := by rw [hW3]; exact ba1 _ _
  have hz0 := HB0.out.size
  have hlr := HR0.out.lt
  have hlk := HK0.out.lt
  have hd3 : DvAt W3 (fl W0.heap.size) w2.heap.size d := by
    rw [hW3]
    exact ⟨_, _, Bk.new _ _ _, own_keep (own_mono HO1.out (Nat.zero_le _)) (ba1 _ _), own_keep (own_mono HO2.out (Nat.zero_le _)) (ba1 _ _), ⟨by show W0.heap.size ≤ _; omega, fun g hg => by show W0.heap.size ≤ _; have := (HO1.out.lt g hg).1; omega, fun g hg => by show W0.heap.size ≤ _; have := (HO2.out.lt g hg).1; omega, by show W0.heap.size ≤ _; simp; omega⟩, HFu.out⟩
  have HB3 := hide (HB2.out.trans (hb3.mono HB2.out.size))
  have HR3 := hide (HR2.out.keep hb3)
  have hst := settle_crash (fl W0.heap.size) w2.heap.size d keep A c (w.heap.size + 1) w.heap.size W3 hd3 HRi.out (HK2.out.keep hb3) (HKr.out.below HB3.out) (fun g hg hb => by have : W0.heap.size ≤ g := hb; omega) HB3.out.size
  have HSt := hide hst
  have hz3 : W0.heap.size ≤ W3.heap.size := by have := hb3.size; omega
  clear hst hd3 hb3 hW3 HK2 HR2 HO1 HO2
  go_upto_region 6 with (go_at_call 60; refine Calls.mono HSt.out ?_; rintro e w4 ⟨rfl, hd4, hf4⟩; have HR4 := hide (HR3.out.afr hf4 (by unfold DTy; decide)); have HB4 := hide (HB3.out.trans ((hf4.toBelow hz3).mono hz0)); have hz4 : W0.heap.size ≤ w4.heap.size := Nat.le_trans hz3 hf4.size; have HD4 := hide hd4; clear hf4 hd4)
  obtain ⟨E4, V4, k4, oe4, ow4, fb4, ff4⟩ := HD4.out
  obtain ⟨y0, y1, y2, y3, y4⟩ := five_cells k4
  obtain ⟨f0, f1, f2, f3, f4⟩ := five_free k4
  have hl4 := k4.lt
  have HK4 := hide k4
  go_upto_region 7 with fail
  obtain ⟨W5, hW5⟩ : ∃ W5, W5 = (w4.setCell ⟨w2.heap.size, 4, none⟩ (.bool false)).setCell ⟨w2.heap.size, 3, none⟩ (.int .i64 (-1)) := ⟨_, rfl⟩
  rw [← hW5]
  have k5 := put34_bk k4 (.bool false) (.int .i64 (-1))
  have hd5 : DvAt W5 (fl W0.heap.size) w2.heap.size (crashD keep d) := by
    rw [hW5]
    refine ⟨E4, V4, k5, own_set (own_set oe4 (p := ⟨w2.heap.size, 4, none⟩) (fun e => own_ne oe4 k4 (by decide) e.symm) _) (p := ⟨w2.heap.size, 3, none⟩) (fun e => own_ne oe4 k4 (by decide) e.symm) _, own_set (own_set ow4 (p := ⟨w2.heap.size, 4, none⟩) (fun e => own_ne ow4 k4 (by decide) e.symm) _) (p := ⟨w2.heap.size, 3, none⟩) (fun e => own_ne ow4 k4 (by decide) e.symm) _, ⟨fb4.dev, fb4.exts, fb4.waits, by rw [size_setCell, size_setCell]; exact fb4.top⟩, (show (-1 : Int) ≤ 9223372036854775807 by decide)⟩
  have hr5 := (HR4.out.other (gx := w2.heap.size) (by omega) 4 (.bool false)).other (gx := w2.heap.size) (by omega) 3 (.int .i64 (-1))
  have hb5 : Below w.heap.size w ((w4.setCell ⟨w2.heap.size, 4, none⟩ (.bool false)).setCell ⟨w2.heap.size, 3, none⟩ (.int .i64 (-1))) := (HB4.out.setCell (p := ⟨w2.heap.size, 4, none⟩) HB2.out.size _).setCell (p := ⟨w2.heap.size, 3, none⟩) HB2.out.size _
  rw [← hW5] at hr5 hb5
  have HDn := hide (done_any (fl W0.heap.size) w2.heap.size (crashD keep d) 0 W5 hd5)
  have HR5 := hide hr5
  have HB5 := hide hb5
  clear hd5 hr5 hb5 hW5 k5 k4 oe4 ow4 fb4 y0 y1 y2 y3 y4 f0 f1 f2 f3 f4
  go_wp2_with (go_at_call 49; refine Calls.mono HDn.out ?_; rintro e w6 ⟨⟨v6, rfl, hq6⟩, hb6⟩; have HQ6 := hide hq6; obtain ⟨AE6, cE6, AW6, cW6, rfl, h1, h2⟩ := hq6; have k6 := HR5.out.keep hb6; obtain ⟨r0, r1, r2, r3, r4⟩ := five_cells k6; obtain ⟨g0, g1, g2, g3, g4⟩ := five_free k6; have l6 := k6.lt; have HR6 := hide k6; have HB6 := hide (HB5.out.trans (hb6.mono HB5.out.size)); clear hb6 k6 h1 h2)
  refine bodyPost_ret (v := .tuple #[.agg #[_, _, _, _, _], .int .i64 0]) (res_d2 Tryz.results37 (pt5_bk HR6.out _ _ _ _ _) rfl rfl) rfl ?_
  exact ⟨⟨_, rfl, HQ6.out.pt5 HR6.out _ _ _ _ _⟩, HB6.out.trans ((pt5_fr w6 (w.heap.size + 1 + 1) _ _ _ _ _).toBelowB (fun k hk => by subst hk; omega) HB6.out.size)⟩
end Go.Proofs.YtmbonieeapbpoaaGreatDoor
