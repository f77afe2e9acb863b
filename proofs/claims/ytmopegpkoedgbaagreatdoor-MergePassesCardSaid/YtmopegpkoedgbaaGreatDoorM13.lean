/- Lemmas for the row: DskNw. -/
import Derived.Test.YtmopegpkoedgbaaGreatDoorM12
import Derived.Test.YtmopegpkoedgbaaGreatDoorShelf
set_option linter.unusedVariables false
set_option linter.unusedSimpArgs false
/- Walk: (*disk.Dev).New. -/
namespace Go.Proofs.YtmopegpkoedgbaaGreatDoor
open Go.RowKit Go.Sort

theorem named_new0 (s : ByteArray) (t : TypeId) (w : World) : Calls Tryz.prog 150 #[.slice (some ⟨w.heap.size, 0, none⟩) 1 1] (w.alloc (.cells #[.string s] t)) fun e w' => e = .returned (.bool (namedB s)) ∧ Below (w.heap.size + 1) (w.alloc (.cells #[.string s] t)) w' := by
  have h := named_any (some ⟨w.heap.size, 0, none⟩) 1 [s] (w.alloc (.cells #[.string s] t)) (fun i u hu => by
    have hb := Bk.new w t #[.string s]
    cases i with
    | zero => cases hu; exact ⟨_, _, rfl, hb.lt, hb.cell 0⟩
    | succ i => cases hu) (by simp)
  have e1 : [s].all namedB = namedB s := by simp
  have e2 : (w.alloc (.cells #[.string s] t)).heap.size = w.heap.size + 1 := by simp
  rw [e1, e2] at h
  exact h
theorem rep0 : ∀ n, Lib.repeatL [(0 : UInt8)] n = List.replicate n 0
  | 0 => rfl
  | n + 1 => by show [0] ++ Lib.repeatL [0] n = _; rw [rep0 n]; rfl
theorem repeat_zero (n : Nat) (w : World) (hn : n ≤ 1000000000) : Calls Tryz.prog 153 #[.string ⟨#[0]⟩, .int .i64 n] w fun e w' => e = .returned (.string (zerosB n)) ∧ Below w.heap.size w w' := by
  have h := Tryz.strings_Repeat ⟨#[0]⟩ n w (by omega) (by show 1 * n ≤ _; omega)
  have e : (⟨(Lib.repeatL ((⟨#[0]⟩ : ByteArray)).data.toList n).toArray⟩ : ByteArray) = zerosB n := by
    unfold zerosB
    congr 2
    exact rep0 n
  rw [e] at h
  exact h
set_option maxRecDepth 100000 in
set_option maxHeartbeats 8000000 in
theorem new_disk (B : Fld) (q : Nat) (d : Dsk) (name : ByteArray) (n : Int) (w : World) (hd : DvAt w B q d) (hr : Right d) (hn : n ≤ 1000000) :
    Calls Tryz.prog 110 #[.pointer (some ⟨q, 0, none⟩), .string name, .int .i64 n] w fun e w' => e = .returned (.int .i64 (newD d name n).2) ∧ DvAt w' B q (newD d name n).1 ∧ AFr DTy B w w' := by
  have HD := hide hd
  obtain ⟨E, W, hk, hE, hW, hqf⟩ := hd
  obtain ⟨A, c, rfl⟩ := own_formk hE
  have hR := own_rdk hE
  have hlen := hr.len
  have hfa := find_any A c d.exts name w hR (by omega)
  have hro := fun (W : World) (h : Below w.heap.size w W) => room_disk B q d W (HD.out.keep h) hr
  have hil : findI d.exts name ≤ d.exts.length := (findI_spec hr.rise name).1
  obtain ⟨c0, c1, c2, c3, c4⟩ := five_cells hk
  have hql := hk.lt
  have hq := hqf.1
  obtain ⟨N, hN⟩ : ∃ N, N = newD d name n := ⟨_, rfl⟩
  have hne : ∀ (a b : Bool), a = namedB name → b = findIs d.exts name → N = if !a || decide (n < 1) then (d, 1) else if b then (d, 4) else if roomD d < n then (d, 8) else ({ d with exts := insE d.exts (findI d.exts name) ⟨name, zerosB (64 * n.toNat)⟩ }, 0) := fun a b ha hb => by rw [hN, ha, hb]; rfl
  rw [← hN]
  obtain ⟨nb, hnb⟩ : ∃ nb, nb = namedB name := ⟨_, rfl⟩
  obtain ⟨fs, hfs⟩ : ∃ fs, fs = findIs d.exts name := ⟨_, rfl⟩
  have hnd := fun (W : World) => named_new0 name 9 W
  rw [← hnb] at hnd
  rw [← hfs] at hfa
  have HNe := hide (hne nb fs hnb hfs)
  have HFA := hide hfa
  have HRo := hide hro
  have HNd := hide hnd
  have HK := hide hk
  have HE := hide hE
  have HW := hide hW
  have HQF := hide hqf
  obtain ⟨rm, hrm⟩ : ∃ rm, rm = roomD d := ⟨_, rfl⟩
  rw [← hrm] at HRo HNe
  obtain ⟨fi, hfi⟩ : ∃ fi, fi = findI d.exts name := ⟨_, rfl⟩
  rw [← hfi] at HFA HNe hil
  clear hR hr hfa hro hk hE hW hqf hN hne hnb hfs hnd hrm hfi
  cases nb with
  | false =>
    go_enter Tryz.func110, Tryz.ntmps110
    go_wp2_with (first
      | (go_at_call 149; refine Calls.mono HFA.out ?_; rintro e w1 ⟨rfl, hb1⟩; have HB1 := hide hb1; clear hb1)
      | (go_at_call 150; refine Calls.mono (HNd.out _) ?_; rintro e w2 ⟨rfl, hb2⟩; have HB2 := hide (btrans HB1.out (bal1 hb2)); clear hb2))
    go_ret
    rw [HNe.out]
    exact ⟨rfl, HD.out.keep HB2.out, AFr.below HB2.out⟩
  | true =>
    by_cases h1 : n < 1
    · go_enter Tryz.func110, Tryz.ntmps110
      go_wp2_with (first
        | (go_at_call 149; refine Calls.mono HFA.out ?_; rintro e w1 ⟨rfl, hb1⟩; have HB1 := hide hb1; clear hb1)
        | (go_at_call 150; refine Calls.mono (HNd.out _) ?_; rintro e w2 ⟨rfl, hb2⟩; have HB2 := hide (btrans HB1.out (bal1 hb2)); clear hb2))
      go_ret
      have hN := HNe.out
      rw [if_pos (by simp [h1])] at hN
      rw [hN]
      exact ⟨rfl, HD.out.keep HB2.out, AFr.below HB2.out⟩
    · cases fs with
      | true =>
        go_enter Tryz.func110, Tryz.ntmps110
        go_wp2_with (first
          | (go_at_call 149; refine Calls.mono HFA.out ?_; rintro e w1 ⟨rfl, hb1⟩; have HB1 := hide hb1; clear hb1)
          | (go_at_call 150; refine Calls.mono (HNd.out _) ?_; rintro e w2 ⟨rfl, hb2⟩; have HB2 := hide (btrans HB1.out (bal1 hb2)); clear hb2))
        go_ret
        have hN := HNe.out
        rw [if_neg (by simp [h1]), if_pos trivial] at hN
        rw [hN]
        exact ⟨rfl, HD.out.keep HB2.out, AFr.below HB2.out⟩
      | false =>
        by_cases h2 : rm < n
        · go_enter Tryz.func110, Tryz.ntmps110
          go_wp2_with (first
            | (go_at_call 149; refine Calls.mono HFA.out ?_; rintro e w1 ⟨rfl, hb1⟩; have HB1 := hide hb1; clear hb1)
            | (go_at_call 150; refine Calls.mono (HNd.out _) ?_; rintro e w2 ⟨rfl, hb2⟩; have HB2 := hide (btrans HB1.out (bal1 hb2)); clear hb2)
            | (go_at_call 151; refine Calls.mono (HRo.out _ HB2.out) ?_; rintro e w3 ⟨rfl, hb3⟩; have HB3 := hide (btrans HB2.out hb3); clear hb3))
          go_ret
          have hN := HNe.out
          rw [if_neg (by simp [h1]), if_neg (by simp), if_pos h2] at hN
          rw [hN]
          exact ⟨rfl, HD.out.keep HB3.out, AFr.below HB3.out⟩
        · have hN := HNe.out
          rw [if_neg (by simp [h1]), if_neg (by simp), if_neg h2] at hN
          obtain ⟨m, rfl⟩ : ∃ m : Nat, n = (m : Int) := ⟨n.toNat, by omega⟩
          have hm : m ≤ 1000000 := by omega
          rw [Int.toNat_natCast] at hN
          have HN := hide hN
          clear hN HNe
          have e1 : IntKind.i64.wrap ((m : Int) * 64) = ((64 * m : Nat) : Int) := by rw [IntWalk.i64_in _ ⟨by omega, by omega⟩]; omega
          have hrp := fun W => repeat_zero (64 * m) W (by omega)
          have HRp := hide hrp
          clear hrp
          go_enter Tryz.func110, Tryz.ntmps110
          go_upto_region 8 with (first
            | (go_at_call 149; refine Calls.mono HFA.out ?_; rintro e w1 ⟨rfl, hb1⟩; have HB1 := hide hb1; clear hb1)
            | (go_at_call 150; refine Calls.mono (HNd.out _) ?_; rintro e w2 ⟨rfl, hb2⟩; have HB2 := hide (btrans HB1.out (bal1 hb2)); clear hb2)
            | (go_at_call 151; refine Calls.mono (HRo.out _ HB2.out) ?_; rintro e w3 ⟨rfl, hb3⟩; have hk3 := HK.out.keep (btrans HB2.out hb3); obtain ⟨d0, d1, d2, d3, d4⟩ := five_cells hk3; have d5 := hk3.free 1; have hq3 := hk3.lt; have HK3 := hide hk3; have HB3 := hide (btrans HB2.out hb3); clear hb3 hk3))
          have hins := fun (W : World) (vb : Nat) (h : Below w.heap.size w W) (hv : Bk W vb 77 #[.string name, .string (zerosB (64 * m))]) (hw : w.heap.size ≤ vb) => insert_any A c vb fi d.exts ⟨name, zerosB (64 * m)⟩ W (own_keep HE.out h) hv (fun e => by have := (HE.out.lt vb e).2; omega) (by omega) hil
          have HIns := hide hins
          clear hins
          go_region_law (first
            | (go_simp; go_at_call 153; refine Calls.mono (HRp.out _) ?_; rintro e w4 ⟨rfl, hb4⟩; have hk4 := (show Bk w3.drew q _ _ from HK3.out).keep hb4; obtain ⟨t0, t1, t2, t3, t4⟩ := five_cells hk4; have t5 := hk4.free 1; have hq4 := hk4.lt; have HK4 := hide hk4; have HB4 := hide (btrans HB3.out.drew hb4); clear hb4 hk4)
            | (go_simp; go_at_call 152
               refine Calls.mono (HIns.out _ w4.heap.size (btrans HB4.out (ba1 _ _)) (Bk.new _ _ _) HB4.out.size) ?_
               rintro e w5 ⟨⟨A5, c5, rfl, ho5, hl5⟩, hg5⟩
               have hk5 := (HK4.out.alloc (.cells #[.string name, .string (zerosB (64 * m))] 77)).grown hg5 (own_ne (own_keep HE.out (btrans HB4.out (ba1 w4 (.cells #[.string name, .string (zerosB (64 * m))] 77)))) (HK4.out.alloc _) (by decide))
               obtain ⟨r0, r1, r2, r3, r4⟩ := five_cells hk5
               have r5 := hk5.free 1
               have HK5 := hide hk5
               have HO5 := hide ho5
               have HG5 := hide hg5
               have HL5 := hide hl5
               clear ho5 hg5 hk5 hl5))
          all_goals
            go_wp2_with fail
            go_ret
            rw [HN.out]
            have hba := btrans HB4.out (ba1 w4 (.cells #[.string name, .string (zerosB (64 * m))] 77))
            have hEa := own_keep HE.out hba
            have hlen5 : (insE d.exts fi ⟨name, zerosB (64 * m)⟩).length = d.exts.length + 1 := by unfold insE; simp; omega
            have hW5 := own_fr (own_keep HW.out hba) (Fr.grown HG5.out (S := fun k => (Value.slice A d.exts.length c).ownBlock = some k) (fun k hk => hk)) (fun k hk hs => own_apart (own_keep HW.out hba) hEa (by decide) hk hs)
            have hk6 := HK5.out.set_ 1 (.slice A5 (d.exts.length + 1) c5)
            refine ⟨rfl, ⟨_, _, hk6, ?_, own_set hW5 (p := ⟨q, 1, none⟩) (fun e => own_ne hW5 HK5.out (by decide) e.symm) _, ⟨hq.dev, fun k hk => ?_, hq.waits, ?_⟩, HQF.out.2⟩, ?_⟩
            · have h3 := own_set HO5.out (p := ⟨q, 1, none⟩) (fun e => own_ne HO5.out HK5.out (by decide) e.symm) (.slice A5 (d.exts.length + 1) c5)
              show World.ownsRow _ 0 _ 2 _ (insE d.exts fi ⟨name, zerosB (64 * m)⟩).length _
              rw [hlen5]
              exact h3
            · rcases HL5.out k hk with e | e
              · exact hq.exts k e
              · refine B.fit k ?_
                have h1 := hba.size
                have h2 := hq.top
                omega
            · have h1 := hba.size
              have h2 := hq.top
              have h3 := HG5.out.size
              rw [size_setCell]
              omega
            · exact ((AFr.below hba).grown hEa hq.exts (by unfold DTy; simp) HG5.out).set_ HK5.out hq.dev (by unfold DTy; simp) _ _
end Go.Proofs.YtmopegpkoedgbaaGreatDoor
