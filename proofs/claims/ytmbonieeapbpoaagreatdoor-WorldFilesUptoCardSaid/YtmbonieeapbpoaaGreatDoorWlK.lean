/- The law WorldFiles, walked (printed by gen_wlk.py). -/
import Derived.Test.YtmbonieeapbpoaaGreatDoorM26
import Derived.Test.YtmbonieeapbpoaaGreatDoorM28
namespace Go.Proofs.YtmbonieeapbpoaaGreatDoor
open Go.RowKit Go.Sort

theorem worldE_crash {d : Dsk} {b : Int} (h : worldE d b = 0) (kp : List Bool) : worldE (crashD kp d) b = 0 := by
  have h1 : checkB (crashD kp d) = true := checkB_iff.2 (crash_right (checkB_iff.1 (world_check h)) kp)
  unfold worldE at h ⊢
  rw [h1]
  rw [world_check (d := d) (b := b) (by unfold worldE; exact h)] at h
  exact h
theorem files_crash {d : Dsk} {b : Int} (h : worldE d b = 0) (kp : List Bool) : filesW (crashD kp d) b = (namesD d, 0) := by
  unfold filesW
  rw [if_pos (worldE_crash h kp), crash_namesD]
theorem sz_crash {d : Dsk} {b : Int} (h : worldE d b = 0) (kp : List Bool) : SzD (crashD kp d) :=
  Right.sz (crash_right (checkB_iff.1 (world_check h)) kp) (show (-1 : Int) ≤ 9223372036854775807 by decide)
theorem fnd_names {d : Dsk} {i : Nat} {s : ByteArray} (h : (namesD d)[i]? = some s) : ∃ k : Nat, fndI d.exts s = k := find_in (files_in h).2
set_option maxRecDepth 100000 in
set_option maxHeartbeats 16000000 in
theorem worldFiles_any (V : Value) (d : Dsk) (b : Int) (kp : List Bool) (A : Option Addr) (c : Nat) (w : World) (hv : WvR w w.heap.size V d b) (hz : SzD d) (hk : Rd w w.heap.size A (kp.map .bool)) (hkl : kp.length ≤ 100000000) :
    Calls Tryz.prog 4 #[V, .slice A kp.length c] w fun e w' => e = .returned (.bool true) ∧ Below w.heap.size w w' := by
  have hfi := fun W (h : Below w.heap.size w W) => files_any V d b W ((hv.below h).more h.size) hz
  have hfd := fun (AE : Option Addr) (cE : Nat) (hE : Rd w w.heap.size AE (flatE d.exts)) (s : ByteArray) W (h : Below w.heap.size w W) => rfind_any AE cE d.exts s W ((hE.below h).more h.size) hz.exts
  have hcr := fun (hw : worldE d b = 0) W (h : Below w.heap.size w W) => do_crash V d b kp A c W ((hv.below h).more h.size) hz hw ((hk.below h).more h.size) hkl
  obtain ⟨z, hze⟩ : ∃ z, z = worldE d b := ⟨_, rfl⟩
  have hf0 : filesW d b = if z = 0 then (namesD d, 0) else ([], 2) := by unfold filesW; rw [hze]
  have hnl : (namesD d).length ≤ 1000000000 := by
    unfold namesD
    exact Nat.le_trans (List.length_filter_le _ _) (by rw [List.length_map]; exact hz.exts)
  obtain ⟨AE, cE, AW, cW, rfl, hE, hW⟩ := hv
  have hfd := hfd AE cE hE
  obtain ⟨W0, hW0⟩ : ∃ W0, W0 = w.alloc (.cells #[.int .i64 d.size, .slice AE d.exts.length cE, .slice AW d.waits.length cW, .int .i64 d.fuse, .bool d.down, .int .i64 b] 27) := ⟨_, rfl⟩
  have hb0 : Below w.heap.size w W0 := by rw [hW0]; exact ba1 _ _
  have k0 : Bk W0 w.heap.size 27 #[.int .i64 d.size, .slice AE d.exts.length cE, .slice AW d.waits.length cW, .int .i64 d.fuse, .bool d.down, .int .i64 b] := by rw [hW0]; exact Bk.new _ _ _
  have HW0 := hide (show w.alloc (.cells #[.int .i64 d.size, .slice AE d.exts.length cE, .slice AW d.waits.length cW, .int .i64 d.fuse, .bool d.down, .int .i64 b] 27) = W0 from hW0.symm)
  have HB0 := hide hb0
  have HK0 := hide k0
  have HCr := hide hcr
  have HFd := hide hfd
  clear hW0 hb0 k0 hE hW hk hkl hcr hfd hz
  by_cases hz0 : z = 0
  · rw [hf0, if_pos hz0] at hfi
    rw [hz0] at hze
    have HFi := hide hfi
    have HZe := hide hze.symm
    have HRi := hide (checkB_iff.1 (world_check hze.symm))
    clear hfi hf0 hze hz0
    obtain ⟨fs, hfs⟩ : ∃ fs, fs = namesD d := ⟨_, rfl⟩
    rw [← hfs] at HFi hnl
    have HFs := hide hfs
    clear hfs
    go_enter Tryz.func4, Tryz.ntmps4
    go_upto_region 1 with fail
    rw [HW0.out]
    go_upto_region 4 with (first
      | (have hn0 := HB1; clear hn0; go_at_call 5; refine Calls.mono (HFi.out _ HB1.out) ?_; rintro e w2 ⟨⟨L2, rfl, ho2⟩, hb2⟩; obtain ⟨A2, c2, rfl⟩ := own_formk ho2; have HR2 := hide (own_rdk ho2); have HK2 := hide (HK1.out.keep hb2); have HB2 := hide (HB1.out.trans (hb2.mono HB1.out.size)); clear hb2 ho2)
      | (go_at_call 9; refine Calls.mono (lives29_any _) ?_; rintro e w1 ⟨rfl, hb1⟩; have k1 := HK0.out.keep hb1; have x0 := k1.cell 0; have x1 := k1.cell 1; have x2 := k1.cell 2; have x3 := k1.cell 3; have x4 := k1.cell 4; have x5 := k1.cell 5; have lx := k1.lt; have HK1 := hide k1; have HB1 := hide (HB0.out.trans (hb1.mono HB0.out.size)); clear hb1 k1))
    clear x0 x1 x2 x3 x4 x5 lx
    go_wp2_with fail
    go_loopw [28] (fun iv wr => ∃ k : Nat, iv = .int .i64 k ∧ k ≤ fs.length ∧ Hid (Below w2.heap.size w2 wr)) (fun i _ => fs.length - (intOf i).toNat)
    case atStart => exact ⟨0, rfl, by omega, hide (Below.refl _ _)⟩
    case round =>
      obtain ⟨k, rfl, hk, hB⟩ := hrel
      have kr := HK2.out.keep hB.out
      have hbw := HB2.out.trans (hB.out.mono HB2.out.size)
      have hz2 := hB.out.size
      by_cases hlt : k < fs.length
      · obtain ⟨s, hs⟩ : ∃ s, fs[k]? = some s := ⟨fs[k], List.getElem?_eq_getElem hlt⟩
        obtain ⟨bb, oo, rfl, hbb, e1⟩ := HR2.out.below hB.out k (.string s) (by rw [List.getElem?_map, hs]; rfl)
        have hs2 : (namesD d)[k]? = some s := by rw [← HFs.out]; exact hs
        have hmay := fun W => rmay_any s W
        rw [(files_in hs2).1] at hmay
        obtain ⟨fk, hfk⟩ := fnd_names hs2
        have hfd := fun W h => HFd.out s W h
        rw [hfk] at hfd
        have f0 : decide ((fk : Int) < 0) = false := decide_eq_false (by omega)
        have HMa := hide hmay
        have HFk := hide hfd
        have HS := hide hs
        have HS2 := hide hs2
        have x1 := kr.cell 1
        have lx := kr.lt
        have HBw := hide hbw
        clear hs hs2 hmay hfd hfk hbw
        by_cases hk0 : k = 0
        · have g0 : decide (0 < k) = false := decide_eq_false (by omega)
          clear hk0
          go_wp2_with (first
            | (go_at_call 14; refine Calls.mono (HMa.out _) ?_; rintro e w3 ⟨rfl, ew⟩; subst ew)
            | (go_at_call 15; refine Calls.mono (HFk.out _ HBw.out) ?_; rintro e w4 ⟨rfl, hb4⟩; have HB4 := hide (hB.out.trans (hb4.mono hz2)); clear hb4))
          exact ⟨⟨k + 1, by simp, by omega, HB4⟩, by simp [intOf]; omega⟩
        · obtain ⟨m, rfl⟩ : ∃ m, k = m + 1 := ⟨k - 1, by omega⟩
          obtain ⟨p, hp⟩ : ∃ p, fs[m]? = some p := ⟨fs[m]'(by omega), List.getElem?_eq_getElem (by omega)⟩
          obtain ⟨bb', oo', e0', hbb', e2⟩ := HR2.out.below hB.out m (.string p) (by rw [List.getElem?_map, hp]; rfl)
          cases e0'
          have g0 : decide ((0 : Int) < ((m + 1 : Nat) : Int)) = true := decide_eq_true (by omega)
          have g1 : IntKind.i64.wrap (((m + 1 : Nat) : Int) - 1) = (m : Int) := by rw [IntWalk.i64_in _ ⟨by omega, by omega⟩]; omega
          have g2 : (m : Int) < (fs.length : Int) := by omega
          have hls : Op.bytesLess p.toList s.toList = true := files_next HRi.out (by rw [← HFs.out]; exact hp) HS2.out
          clear hp
          go_wp2_with (first
            | (go_at_call 14; refine Calls.mono (HMa.out _) ?_; rintro e w3 ⟨rfl, ew⟩; subst ew)
            | (go_at_call 15; refine Calls.mono (HFk.out _ HBw.out) ?_; rintro e w4 ⟨rfl, hb4⟩; have HB4 := hide (hB.out.trans (hb4.mono hz2)); clear hb4))
          exact ⟨⟨m + 1 + 1, by simp, by omega, HB4⟩, by simp [intOf]; omega⟩
      · obtain rfl : k = fs.length := by omega
        have hcr := HCr.out HZe.out wr hbw
        have HCw := hide hcr
        have HFc := hide (fun W V (h : WvQ W V (crashD kp d) b) => files_any V (crashD kp d) b W h.r (sz_crash HZe.out kp))
        have HFe := hide (files_crash HZe.out kp)
        have HRr := hide (HR2.out.below hB.out)
        have HBw := hide hbw
        have x0 := kr.cell 0
        have x1 := kr.cell 1
        have x2 := kr.cell 2
        have x3 := kr.cell 3
        have x4 := kr.cell 4
        have x5 := kr.cell 5
        have lx := kr.lt
        clear hcr hbw kr
        go_upto_region 13 with (go_at_call 16; refine Calls.mono HCw.out ?_; rintro e w3 ⟨⟨V3, rfl, hq3⟩, hb3⟩; have HQ3 := hide hq3; obtain ⟨AE3, cE3, AW3, cW3, rfl, _, _⟩ := hq3; have HR3 := hide ((HRr.out.below (hb3.mono hz2)).more (Nat.le_trans hz2 hb3.size)); have HB3 := hide (HBw.out.trans (hb3.mono HBw.out.size)); clear hb3)
        clear x0 x1 x2 x3 x4 x5 lx
        obtain ⟨W4, hW4⟩ : ∃ W4, W4 = w3.alloc (.cells #[.int .i64 (crashD kp d).size, .slice AE3 (crashD kp d).exts.length cE3, .slice AW3 (crashD kp d).waits.length cW3, .int .i64 (crashD kp d).fuse, .bool (crashD kp d).down, .int .i64 b] 27) := ⟨_, rfl⟩
        rw [← hW4]
        have hb4 : Below w3.heap.size w3 W4 := by rw [hW4]; exact ba1 _ _
        have k4 : Bk W4 w3.heap.size 27 #[.int .i64 (crashD kp d).size, .slice AE3 (crashD kp d).exts.length cE3, .slice AW3 (crashD kp d).waits.length cW3, .int .i64 (crashD kp d).fuse, .bool (crashD kp d).down, .int .i64 b] := by rw [hW4]; exact Bk.new _ _ _
        have hfc := HFc.out W4 _ (HQ3.out.keep hb4)
        rw [HFe.out] at hfc
        dsimp only at hfc
        rw [← HFs.out] at hfc
        have HFc4 := hide hfc
        have HR4 := hide ((HR3.out.below hb4).more hb4.size)
        have HB4 := hide (HB3.out.trans (hb4.mono HB3.out.size))
        have x0 := k4.cell 0
        have x1 := k4.cell 1
        have x2 := k4.cell 2
        have x3 := k4.cell 3
        have x4 := k4.cell 4
        have x5 := k4.cell 5
        have lx := k4.lt
        clear hb4 k4 hfc hW4 HQ3
        have hsn := fun (A' : Option Addr) (c' : Nat) W (h1 : Rd W W.heap.size A2 (fs.map .string)) (h2 : Rd W W.heap.size A' (fs.map .string)) => samenames_any A2 A' c2 c' fs W h1 h2 hnl
        have HSn := hide hsn
        clear hsn
        go_wp2_with (first
          | (go_at_call 5; refine Calls.mono HFc4.out ?_; rintro e w5 ⟨⟨L5, rfl, ho5⟩, hb5⟩; obtain ⟨A5, c5, rfl⟩ := own_formk ho5; have HR5 := hide ((HR4.out.below hb5).more hb5.size); have HO5 := hide (own_rdk ho5); have HB5 := hide (HB4.out.trans (hb5.mono HB4.out.size)); clear hb5 ho5)
          | (go_at_call 10; refine Calls.mono (HSn.out _ _ _ HR5.out HO5.out) ?_; rintro e w6 ⟨rfl, hb6⟩; have HB6 := hide (HB5.out.trans (hb6.mono HB5.out.size)); clear hb6))
        go_ret
        exact ⟨rfl, HB6.out⟩
  · rw [hf0, if_neg hz0] at hfi
    have HFi := hide hfi
    clear hfi hf0 hze hz0
    go_enter Tryz.func4, Tryz.ntmps4
    go_upto_region 1 with fail
    rw [HW0.out]
    go_wp2_with (first
      | (have hn0 := HB1; clear hn0; go_at_call 5; refine Calls.mono (HFi.out _ HB1.out) ?_; rintro e w2 ⟨⟨L2, rfl, ho2⟩, hb2⟩; obtain ⟨A2, c2, rfl⟩ := own_formk ho2; have HB2 := hide (HB1.out.trans (hb2.mono HB1.out.size)); clear hb2 ho2)
      | (go_at_call 9; refine Calls.mono (lives29_any _) ?_; rintro e w1 ⟨rfl, hb1⟩; have k1 := HK0.out.keep hb1; have x0 := k1.cell 0; have x1 := k1.cell 1; have x2 := k1.cell 2; have x3 := k1.cell 3; have x4 := k1.cell 4; have x5 := k1.cell 5; have lx := k1.lt; have HK1 := hide k1; have HB1 := hide (HB0.out.trans (hb1.mono HB0.out.size)); clear hb1 k1))
    go_ret
    exact ⟨rfl, HB2.out⟩
#print axioms worldFiles_any
end Go.Proofs.YtmbonieeapbpoaaGreatDoor
