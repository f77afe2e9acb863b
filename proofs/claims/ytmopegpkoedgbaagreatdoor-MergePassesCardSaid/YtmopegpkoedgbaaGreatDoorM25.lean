/- Lemmas for the row: FsQ. -/
import Derived.Test.YtmopegpkoedgbaaGreatDoorM03
import Derived.Test.YtmopegpkoedgbaaGreatDoorM15
import Derived.Test.YtmopegpkoedgbaaGreatDoorM24
set_option linter.unusedVariables false
set_option linter.unusedSimpArgs false
/- Walk: recs.body, recs.ReadText. -/
namespace Go.Proofs.YtmopegpkoedgbaaGreatDoor
open Go.RowKit

theorem bStr1 (b : Nat) (l : List UInt8) (w : World) (h : Bd w b (nats l)) :
    Calls Tryz.prog 71 #[.pointer (some ⟨b, 0, none⟩)] w fun e w' => e = .returned (.string (blB l)) ∧ Lib.IsBuilderF 107 5 b b (Lib.byteCells l) w' ∧ Below b w w' := by
  have hb := h.lt
  obtain ⟨p, v, h1, h2, h3⟩ := h
  have at_ : Lib.BuilderAtF 107 5 b b p (Lib.byteCells l) w := by
    refine ⟨Nat.le_refl _, v, h1, ?_, fun e => by have := (h3.lt b e).1; omega⟩
    rw [vbyCells, vby_length]
    exact World.ownsRowF_of (own_base h3 (fun g hg => by have := (h3.lt g hg).1; omega))
  refine (Tryz.Builder_String_any_k b b l w (h2.elim (fun e => .inl (by subst e; exact at_)) (fun e => .inr (by subst e; exact at_))) (by omega)).mono ?_
  rintro e w' ⟨rfl, hk, hbe, _⟩
  exact ⟨rfl, hk, hbe⟩
theorem bStr2 (b : Nat) (l : List UInt8) (w : World) (h : Lib.IsBuilderF 107 5 b b (Lib.byteCells l) w) (hb : b ≤ w.heap.size) :
    Calls Tryz.prog 71 #[.pointer (some ⟨b, 0, none⟩)] w fun e w' => e = .returned (.string (blB l)) ∧ Below b w w' := by
  refine (Tryz.Builder_String_any_k b b l w h hb).mono ?_
  rintro e w' ⟨rfl, _, hbe, _⟩
  exact ⟨rfl, hbe⟩
theorem isb_keep {T e : TypeId} {B b : Nat} {bs : List Value} {w w' : World} (h : Lib.IsBuilderF T e B b bs w) (hb : Below w.heap.size w w') : Lib.IsBuilderF T e B b bs w' := by
  have one : ∀ p, Lib.BuilderAtF T e B b p bs w → Lib.BuilderAtF T e B b p bs w' := fun p ⟨h1, v, h2, h3, h4⟩ => by
    have hlt : b < w.heap.size := by
      rcases Nat.lt_or_ge b w.heap.size with h | h
      · exact h
      · rw [Array.getElem?_eq_none h] at h2; cases h2
    exact ⟨h1, v, (hb.block b hlt).trans h2, h3.kept (row := none) ⟨hb.os, hb.tape, hb.output, hb.size, fun i hi _ => hb.block i hi⟩ (by cases hv : v.ownBlock with | none => exact .inl rfl | some g => exact .inr (by simp)), h4⟩
  rcases h with h | h
  · exact .inl (one _ h)
  · exact .inr (one _ h)
theorem emp_app (b : ByteArray) : (⟨#[]⟩ : ByteArray) ++ b = b := by
  apply ByteArray.ext
  simp [ByteArray.data_append]
/-- What a head that is right says. -/
theorem headAt_ok {d : Dsk} (hr : Right d) {name : ByteArray} {wd ct : Nat} (h : headAt d name = (wd, ct, 0)) : ∃ n, needW (wd : Nat) ct = (n, 0) ∧ wd ≤ 8 ∧ ct ≤ 65536 ∧ n = 1 + (eachW wd * ct + 63) / 64 ∧ ∀ i : Nat, i < n → (readD d name (i : Nat)).2 = 0 := by
  unfold headAt at h
  split at h
  · rename_i h0; exact absurd (congrArg (fun x => x.2.2) h) h0
  · simp only at h
    split at h
    · rename_i h0; exact absurd (congrArg (fun x => x.2.2) h) h0
    · split at h
      · cases h
      · rename_i h1 h2 h3
        rw [h] at h3
        simp only [not_or, ne_eq, Decidable.not_not] at h3
        obtain ⟨h4, h5⟩ := h3
        have hn : needW (wd : Nat) ct = (1 + (eachW wd * ct + 63) / 64, 0) ∧ wd ≤ 8 ∧ ct ≤ 65536 := by
          unfold needW at h4 ⊢
          split at h4
          · cases h4
          · rename_i hc
            rw [if_neg hc]
            exact ⟨rfl, by omega, by omega⟩
        refine ⟨_, hn.1, hn.2.1, hn.2.2, rfl, fun i hi => ?_⟩
        rw [hn.1] at h5
        cases hf : d.exts.find? (fun x => decide (x.nm = name)) with
        | none => rw [hf] at h5; simp at h5; omega
        | some x =>
          rw [hf] at h5
          simp only [Option.map_some, Option.getD_some] at h5
          have hx := List.mem_of_find?_eq_some hf
          have hxn : x.nm = name := by have := List.find?_some hf; simpa using this
          have hp : (placeD d name (i : Nat)).2 = 0 := (placeD_iff hr).2 ⟨x, hx, hxn, by omega, by unfold secsE; rw [h5]; omega⟩
          unfold readD
          rw [if_neg (by rw [hp]; simp)]
          split <;> rfl
theorem readSecs_app (d : Dsk) (name : ByteArray) : ∀ (k i : Nat), readSecs d name (k + 1) i = (readD d name (i : Nat)).1 ++ readSecs d name k (i + 1) := fun _ _ => rfl
theorem readSecs_size {d : Dsk} (hr : Right d) {name : ByteArray} : ∀ (k i : Nat), (∀ j : Nat, i ≤ j → j < i + k → (readD d name (j : Nat)).2 = 0) → (readSecs d name k i).size = 64 * k
  | 0, _, _ => rfl
  | k + 1, i, h => by
    rw [readSecs_app, ByteArray.size_append, (readD_size hr (h i (Nat.le_refl _) (by omega))).1, readSecs_size hr k (i + 1) (fun j h1 h2 => h j (by omega) (by omega))]
    omega
set_option maxRecDepth 100000 in
set_option maxHeartbeats 8000000 in
theorem body_any (v : Value) (d : Dsk) (name : ByteArray) (text : Bool) (w : World) (hv : Dv w w.heap.size v d) (hz : SzD d) :
    Calls Tryz.prog 45 #[v, .string name, .bool text] w fun e w' => e = .returned (.tuple #[.int .i64 ((bodyD d name text).1 : Nat), .string (bodyD d name text).2.1, .int .i64 (bodyD d name text).2.2]) ∧ Below w.heap.size w w' := by
  have hop := fun (W : World) (h : Below w.heap.size w W) => open_disk v d W ((hv.below h).more h.size) hz
  obtain ⟨AE, cE, AW, cW, rfl, hE, hW⟩ := hv
  obtain ⟨W0, hW0⟩ : ∃ W0, W0 = w.alloc (.cells #[.int .i64 d.size, .slice AE d.exts.length cE, .slice AW d.waits.length cW, .int .i64 d.fuse, .bool d.down] 25) := ⟨_, rfl⟩
  have hb0 : Below w.heap.size w W0 := by rw [hW0]; exact ba1 _ _
  have kp0 : Bk W0 w.heap.size 25 #[.int .i64 d.size, .slice AE d.exts.length cE, .slice AW d.waits.length cW, .int .i64 d.fuse, .bool d.down] := by rw [hW0]; exact Bk.new _ _ _
  have p0 := kp0.cell 0
  have p1 := kp0.cell 1
  have p2 := kp0.cell 2
  have p3 := kp0.cell 3
  have p4 := kp0.cell 4
  have lp := kp0.lt
  have hro := openD_right d
  have hO := hop W0 hb0
  obtain ⟨d0, z0, hoz⟩ : ∃ d0 z0, openD d = (d0, z0) := ⟨_, _, rfl⟩
  have hsame : z0 = 0 → d0 = d := fun h => by
    unfold openD at hoz
    split at hoz
    · cases hoz; rfl
    · cases hoz; cases h
  rw [hoz] at hO hro
  have HO := hide hO
  have HW0 := hide hW0
  have HB0 := hide hb0
  have HRo := hide hro
  clear hE hW hop hW0 hb0 kp0 hO hro
  obtain ⟨R, hR⟩ : ∃ R, R = bodyD d name text := ⟨_, rfl⟩
  rw [← hR]
  go_enter Tryz.func45, Tryz.ntmps45
  go_upto_region 2 with (rw [← HW0.out]; go_at_call 72; refine Calls.mono HO.out ?_; rintro e w1 ⟨q, rfl, hd1, hb1⟩; have HD1 := hide hd1; have HB1 := hide (HB0.out.trans (hb1.mono HB0.out.size)); clear hd1 hb1)
  by_cases h0 : z0 = 0
  · have he := hsame h0
    subst he
    subst h0
    have hha := headAt_any (fl W0.heap.size) q d0 name w1 HD1.out HRo.out
    obtain ⟨wd, ct, z1, hh⟩ : ∃ wd ct z1, headAt d0 name = (wd, ct, z1) := ⟨_, _, _, rfl⟩
    rw [hh] at hha
    dsimp only at hha
    have HHa := hide hha
    have hR1 : R = if z1 ≠ 0 then (0, ⟨#[]⟩, z1) else if text ≠ decide (wd = 0) then (0, ⟨#[]⟩, 7) else (if (!zerosL (strL ((readSecs d0 name ((needW (wd : Nat) ct).1 - 1) 1).extract (eachW wd * ct) (readSecs d0 name ((needW (wd : Nat) ct).1 - 1) 1).size))) then (0, ⟨#[]⟩, 7) else (wd, (readSecs d0 name ((needW (wd : Nat) ct).1 - 1) 1).extract 0 (eachW wd * ct), 0)) := by
      rw [hR]; unfold bodyD; rw [if_neg (by rw [hoz]; simp), hh]
    clear hR hoz hsame hha p0 p1 p2 p3 p4 lp HO
    by_cases h1 : z1 = 0
    · subst h1
      rw [if_neg (by simp)] at hR1
      have hwb : ((wd : Int) == 0) = decide (wd = 0) := by
        by_cases h : wd = 0
        · subst h; rfl
        · rw [decide_eq_false h, beq_eq_false_iff_ne]; omega
      obtain ⟨bw, hbw⟩ : ∃ bw, bw = decide (wd = 0) := ⟨_, rfl⟩
      rw [← hbw] at hwb hR1
      by_cases hte : text = bw
      · rw [if_neg (by simp [hte])] at hR1
        obtain ⟨n, hnw, hw8, hct, hn, hrd⟩ := headAt_ok HRo.out hh
        rw [hnw] at hR1
        dsimp only at hR1
        have hew : eachW wd ≤ 40 := by unfold eachW; split <;> omega
        have hec : eachW wd * ct ≤ 40 * 65536 := Nat.mul_le_mul hew hct
        obtain ⟨k, hk⟩ : ∃ k, k = eachW wd * ct := ⟨_, rfl⟩
        rw [← hk] at hR1 hec hn
        obtain ⟨X, hX⟩ : ∃ X, X = readSecs d0 name (n - 1) 1 := ⟨_, rfl⟩
        have hXs : X.size = 64 * (n - 1) := by rw [hX]; exact readSecs_size HRo.out _ _ (fun j h1 h2 => hrd j (by omega))
        rw [← hX] at hR1
        have hkX : k ≤ X.size := by omega
        have hn1 : 1 ≤ n := by omega
        have hn2 : n ≤ 50000 := by omega
        have hne := fun W => need_any (wd : Nat) ct W
        rw [hnw] at hne
        dsimp only at hne
        have hea := fun W => each_any wd W (by omega)
        have hcw : IntKind.i64.wrap (ct : Int) = (ct : Int) := IntWalk.i64_in _ ⟨by omega, by omega⟩
        have hkI : ((eachW wd : Nat) : Int) * (ct : Int) = (k : Int) := by rw [hk]; push_cast; rfl
        have hkw : IntKind.i64.wrap (k : Int) = (k : Int) := IntWalk.i64_in _ ⟨by omega, by omega⟩
        have HX := hide hX
        have HXs := hide hXs
        have HNe := hide hne
        have HEa := hide hea
        have HR1 := hide hR1
        have HRd := hide hrd
        have hkI0 : (0 : Int) ≤ (k : Int) := by omega
        have hkXI : (k : Int) ≤ (X.size : Int) := by omega
        have hXb : X.size ≤ 64 * 50000 := by omega
        subst hte
        clear hX hXs hne hea hR1 hrd hnw hn hec hew hk hh hbw
        cases text
        all_goals
          go_upto_region 11 with (first
            | (go_at_call 73; refine Calls.mono HHa.out ?_; rintro e w2 ⟨rfl, hb2⟩; have HD2 := hide (HD1.out.keep hb2); have HB2 := hide (HB1.out.trans (hb2.mono HB1.out.size)); clear hb2)
            | (go_at_call 85; refine Calls.mono (HNe.out _) ?_; rintro e w3 ⟨rfl, ew⟩; obtain rfl : w2 = w3 := ew.symm))
          have hnew := Bd.new w2
          have HNew := hide (show Bd (w2.alloc (.cells #[.pointer none, .slice none 0 0] 107)) w2.heap.size (nats (bl ⟨#[]⟩)) from hnew)
          have HW1 := hide HB2.out.size
          clear hnew
          go_wp2_with fail
          go_loopw [16] (fun iv wr => ∃ (i : Nat) (acc : ByteArray), iv = .int .i64 i ∧ 1 ≤ i ∧ i ≤ n ∧ Hid (X = acc ++ readSecs d0 name (n - i) i) ∧ Hid (acc.size = 64 * (i - 1)) ∧ Hid (Bd wr w2.heap.size (nats (bl acc))) ∧ Hid (Below w2.heap.size w2 wr)) (fun iv _ => n - (intOf iv).toNat)
          case atStart => exact ⟨1, ⟨#[]⟩, rfl, by omega, by omega, hide (by rw [HX.out]; exact (emp_app _).symm), hide (by rfl), HNew, hide (ba1 _ _)⟩
          case round =>
            clear HNew
            obtain ⟨i, acc, rfl, hi1, hin, hXa, has, hBd, hBr⟩ := hrel
            by_cases hlt : i < n
            · have hre := fun W h => read_disk (fl W0.heap.size) q d0 name (i : Nat) W h HRo.out
              have hrs := (readD_size HRo.out (HRd.out i hlt)).1
              have hr2 := HRd.out i hlt
              obtain ⟨C, z3, hC⟩ : ∃ C z3, readD d0 name (i : Nat) = (C, z3) := ⟨_, _, rfl⟩
              have hX2 : X = (acc ++ C) ++ readSecs d0 name (n - (i + 1)) (i + 1) := by
                rw [hXa.out, show n - i = (n - (i + 1)) + 1 by omega, readSecs_app, hC, ByteArray.append_assoc]
              rw [hC] at hre hrs
              have hnn : nats (bl (acc ++ C)) = nats (bl acc) ++ strL C := by
                have h1 : bl (acc ++ C) = bl acc ++ bl C := by unfold bl; rw [ByteArray.data_append]; simp
                rw [h1, nats_app, ← strL_blB (bl C), blB_bl]
              have hzz : (nats (bl acc)).length + C.size ≤ 100000000000000 := by rw [nats_length, bl_size, has.out]; dsimp only at hrs; omega
              have has2 : (acc ++ C).size = 64 * (i + 1 - 1) := by rw [ByteArray.size_append, has.out]; dsimp only at hrs; omega
              have HRe := hide hre
              have HX2 := hide hX2
              have HNn := hide hnn
              have HZz := hide hzz
              have HAs2 := hide has2
              clear hre hrs hr2 hC hX2 hnn hzz has2 hXa
              go_wp2_with (first
                | (have hx := HB4; clear hx; go_at_call 69; refine Calls.mono (bwString _ _ _ _ (hBd.out.below HB4.out) HZz.out) ?_; rintro e w5 ⟨⟨z5, rfl⟩, hbd5, hb5⟩; have HBd5 := hide (show Bd w5 w2.heap.size (nats (bl (acc ++ C))) by rw [HNn.out]; exact hbd5); have HB5 := hide ((hBr.out.trans (HB4.out.mono hBr.out.size)).trans hb5); clear hbd5 hb5)
                | (go_at_call 86; refine Calls.mono (HRe.out _ (HD2.out.keep hBr.out)) ?_; rintro e w4 ⟨rfl, hb4⟩; have HB4 := hide hb4; clear hb4))
              exact ⟨⟨i + 1, acc ++ C, by simp, by omega, by omega, HX2, HAs2, HBd5, HB5⟩, by simp [intOf]; omega⟩
            · obtain rfl : i = n := by omega
              have hXe : X = acc := by rw [hXa.out, Nat.sub_self]; show acc ++ (⟨#[]⟩ : ByteArray) = acc; exact ByteArray.append_empty
              have hbd := hBd.out
              rw [← hXe] at hbd
              have hs1 := bStr1 _ _ _ hbd
              rw [show blB (bl X) = X from rfl] at hs1
              obtain ⟨Y, hY⟩ : ∃ Y, Y = X.extract k X.size := ⟨_, rfl⟩
              have hYe : X.extract k X.size = Y := hY.symm
              have hYs : Y.size ≤ 100000000 := by rw [hY, ByteArray.size_extract]; omega
              have hze := fun W => zeros_any0 Y W hYs
              obtain ⟨zb, hzb⟩ : ∃ zb, zb = zerosL (strL Y) := ⟨_, rfl⟩
              rw [← hzb] at hze
              have hR2 := HR1.out
              rw [hYe, ← hzb] at hR2
              have HS1 := hide hs1
              have HZe := hide hze
              have HR2 := hide hR2
              have hlw := hBd.out.lt
              clear hXe hbd hs1 hY hYs hze hzb hR2 hXa hBd
              cases zb with
              | false =>
                go_wp2_with (first
                  | (go_at_call 87; refine Calls.mono (HEa.out _) ?_; rintro e w3 ⟨rfl, ew⟩; obtain rfl : wr = w3 := ew.symm)
                  | (go_at_call 88; refine Calls.mono (HZe.out _) ?_; rintro e w7 ⟨rfl, hb7⟩; have HB7 := hide (HB6.out.trans (hb7.mono HB6.out.size)); clear hb7)
                  | (go_at_call 71; refine Calls.mono HS1.out ?_; rintro e w6 ⟨rfl, hk6, hb6⟩; have HB6 := hide (hBr.out.trans hb6); clear hk6 hb6))
                refine bodyPost_ret (v := .tuple #[.int .i64 0, .string ⟨#[]⟩, .int .i64 7]) (by simp [results, Tryz.results45, go_sem]) rfl ?_
                exact ⟨by rw [HR2.out]; rfl, HB2.out.trans (HB7.out.mono HW1.out)⟩
              | true =>
                go_wp2_with (first
                  | (go_at_call 87; refine Calls.mono (HEa.out _) ?_; rintro e w3 ⟨rfl, ew⟩; obtain rfl : wr = w3 := ew.symm)
                  | (go_at_call 88; refine Calls.mono (HZe.out _) ?_; rintro e w7 ⟨rfl, hb7⟩; have HK7 := hide (isb_keep HK6.out hb7); have hl7 := Nat.le_trans hl6 hb7.size; have HB7 := hide (HB6.out.trans (hb7.mono HB6.out.size)); clear hb7)
                  | (go_at_call 71; refine Calls.mono HS1.out ?_; rintro e w6 ⟨rfl, hk6, hb6⟩; have HK6 := hide hk6; have hl6 := Nat.le_trans (Nat.le_of_lt hlw) hb6.size; have HB6 := hide (hBr.out.trans hb6); clear hk6 hb6))
                obtain ⟨Z, hZ⟩ : ∃ Z, Z = X.extract 0 k := ⟨_, rfl⟩
                have hZe : X.extract 0 k = Z := hZ.symm
                have HZ := hide hZ
                clear hZ
                go_region_held3 (fun _ => True) (first | exact trivial | exact True.intro) ((go_at_call 71; refine Calls.mono (bStr2 _ (bl X) _ (show Lib.IsBuilderF _ _ _ _ _ w7.drew from HK7.out) (show _ ≤ w7.heap.size from hl7)) ?_; rintro e w8 ⟨rfl, hb8⟩; rw [show blB (bl X) = X from rfl]; have HB8 := hide (HB7.out.drew.trans hb8); clear hb8))
                all_goals go_wp2_with fail
                all_goals refine bodyPost_ret (v := .tuple #[.int .i64 (wd : Nat), .string Z, .int .i64 0]) (by simp [results, Tryz.results45, go_sem]) rfl ?_
                all_goals exact ⟨by rw [HR2.out, HZ.out]; rfl, HB2.out.trans (HB8.out.mono HW1.out)⟩
      · rw [if_pos (by simpa using hte)] at hR1
        have HRe := hide hR1
        clear hR1 hbw hh
        cases text <;> cases bw <;> first | (exact absurd rfl hte) | (
          clear hte
          go_wp2_with (go_at_call 73; refine Calls.mono HHa.out ?_; rintro e w2 ⟨rfl, hb2⟩; have HB2 := hide (HB1.out.trans (hb2.mono HB1.out.size)); clear hb2)
          refine bodyPost_ret (v := .tuple #[.int .i64 0, .string ⟨#[]⟩, .int .i64 7]) (by simp [results, Tryz.results45, go_sem]) rfl ?_
          exact ⟨by rw [HRe.out]; rfl, HB2.out⟩)
    · have hz1 : (z1 == 0) = false := by simpa using h1
      have HRe := hide (show R = (0, ⟨#[]⟩, z1) by rw [hR1, if_pos h1])
      clear hR1 h1 hh
      go_wp2_with (go_at_call 73; refine Calls.mono HHa.out ?_; rintro e w2 ⟨rfl, hb2⟩; have HB2 := hide (HB1.out.trans (hb2.mono HB1.out.size)); clear hb2)
      refine bodyPost_ret (v := .tuple #[.int .i64 0, .string ⟨#[]⟩, .int .i64 z1]) (by simp [results, Tryz.results45, go_sem]) rfl ?_
      exact ⟨by rw [HRe.out]; rfl, HB2.out⟩
  · have HRe := hide (show R = (0, ⟨#[]⟩, z0) by rw [hR]; unfold bodyD; rw [if_pos (by rw [hoz]; exact h0), hoz])
    have hz0 : (z0 == 0) = false := by simpa using h0
    clear hR hoz hsame p0 p1 p2 p3 p4 lp
    go_wp2_with fail
    refine bodyPost_ret (v := .tuple #[.int .i64 0, .string ⟨#[]⟩, .int .i64 z0]) (by simp [results, Tryz.results45, go_sem]) rfl ?_
    exact ⟨by rw [HRe.out]; rfl, HB1.out⟩
set_option maxRecDepth 100000 in
/-- A disk in a cell of its own, and an error. -/
theorem res_d2 {fn : Func} {p q : Tmp} {W : World} {g : Nat} {c0 c1 c2 c3 c4 : Value} {z : Int} {tmps : Array Value} (hf : fn.results = #[.cell p 25, .tmp q]) (h : Bk W g 25 #[c0, c1, c2, c3, c4]) (h2 : tmps.getD p undef = .pointer (some ⟨g, 0, none⟩)) (h3 : tmps.getD q undef = .int .i64 z) :
    (results fn tmps).run Tryz.prog W = .ok (.tuple #[.agg #[c0, c1, c2, c3, c4], .int .i64 z]) W := by
  have d0 : W.cell? ⟨g, 0, none⟩ = some c0 := h.cell 0
  have d1 : W.cell? ⟨g, 1, none⟩ = some c1 := h.cell 1
  have d2 : W.cell? ⟨g, 2, none⟩ = some c2 := h.cell 2
  have d3 : W.cell? ⟨g, 3, none⟩ = some c3 := h.cell 3
  have d4 : W.cell? ⟨g, 4, none⟩ = some c4 := h.cell 4
  rw [Array.getD_eq_getD_getElem?] at h2 h3
  simp [results, hf, go_sem, h2, h3, asAddr, d0, d1, d2, d3, d4]
end Go.Proofs.YtmopegpkoedgbaaGreatDoor
