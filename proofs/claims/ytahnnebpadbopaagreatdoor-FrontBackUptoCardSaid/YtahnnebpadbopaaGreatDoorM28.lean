/- Lemmas for the row: FsA3, FsA4, FsA5, FsC. -/
import Derived.Test.YtahnnebpadbopaaGreatDoorM26
set_option linter.unusedVariables false
/- Walk: front.step, part 3 (printed by gen_fsa.py). -/
namespace Go.Proofs.YtahnnebpadbopaaGreatDoor
open Go.RowKit

set_option maxRecDepth 100000 in
set_option maxHeartbeats 8000000 in
theorem step_1_0 (s : ByteArray) (w : World) (hs : s.size ≤ 100000000) (hL : Lay w) (hkk : kindB ((bl s).take (spaceI (bl s))) = 0) (hsd : Lib.indexByte (bl s) 32 = (spaceI (bl s) : Int)) :
    Calls Tryz.prog 32 #[.string s] w fun e w' => (∃ (st : Stp) (kv : Value) (b : Bool), e = .returned (.tuple #[stpV st kv, .bool b]) ∧ KpO w' w.heap.size kv st.keep ∧ stepB (bl s) = if b then some st else none) ∧ Below w.heap.size w w' := by
  obtain ⟨a, ha⟩ : ∃ a, a = spaceI (bl s) := ⟨_, rfl⟩
  have hal : a ≤ s.size := by have := space_le (bl s); rw [bl_size] at this; omega
  obtain ⟨A, hA⟩ : ∃ A, A = s.extract a s.size := ⟨_, rfl⟩
  obtain ⟨B, hB⟩ : ∃ B, B = s.extract 0 a := ⟨_, rfl⟩
  have hbA : bl A = (bl s).drop a := by rw [hA, bl_extract, List.take_of_length_le (by rw [bl_size]; exact Nat.le_refl _)]
  have hbB : bl B = (bl s).take a := by rw [hB, bl_extract, List.drop_zero]
  have hAl : A.size ≤ 100000000 := by rw [← bl_size, hbA, List.length_drop, bl_size]; omega
  have hBl : B.size ≤ 100000000 := by rw [← bl_size, hbB, List.length_take, bl_size]; omega
  have hst : stepB (bl s) = stepK (kindB (bl B)) (bl A) := by unfold stepB; rw [hbA, hbB, ha]
  rw [hst]
  have hk10 := kindB_le (bl B)
  have hkd := fun W hW => kind_any B W hBl hW
  obtain ⟨K, hK⟩ : ∃ K, K = kindB (bl B) := ⟨_, rfl⟩
  rw [← hK] at hkd hk10 ⊢
  obtain rfl : K = 0 := by rw [hK, hbB, ha]; exact hkk
  obtain ⟨r, hr⟩ : ∃ r, r = bl A := ⟨_, rfl⟩
  rw [← hr]
  have hAr : A = blB r := by rw [hr, blB_bl]
  have hrl : r.length ≤ 100000000 := by rw [hr, bl_size]; exact hAl
  have HKd := hide hkd
  have HL := hide hL
  have HAr := hide hAr
  have HrL := hide hrl
  have haw : (0 : Int) ≤ (a : Int) := by omega
  have hix : ∀ W, Calls Tryz.prog 53 #[.string s, .int .u8 32] W fun e w' => e = .returned (.int .i64 (a : Nat)) ∧ w' = W := fun W => by
    have := Tryz.strings_IndexByte s 32 W
    rw [show Lib.indexByte s.data.toList ((32 : Int).toNat.toUInt8) = (a : Int) from by rw [ha]; exact hsd] at this
    exact this
  have HIx := hide hix
  have hAe : s.extract a s.size = A := hA.symm
  have hBe : s.extract 0 a = B := hB.symm
  have hIw : IntKind.i64.wrap (a : Int) = (a : Int) := IntWalk.i64_in _ ⟨by omega, by omega⟩
  clear hst hkd hkk hsd hK hr hrl hL hix hAr ha hA hB hbA hbB hAl
  obtain ⟨w0, hw0⟩ : ∃ w0, w0 = w.alloc (.cells #[.int .u8 0, .string ⟨#[]⟩, .string ⟨#[]⟩, .string ⟨#[]⟩, .int .i64 0, .slice none 0 0] 39) := ⟨_, rfl⟩
  have hb0 : Below w.heap.size w w0 := by rw [hw0]; exact ba1 _ _
  have kres : Bk w0 w.heap.size 39 #[.int .u8 0, .string ⟨#[]⟩, .string ⟨#[]⟩, .string ⟨#[]⟩, .int .i64 0, .slice none 0 0] := by rw [hw0]; exact Bk.new _ _ _
  have HW0 := hide hw0
  have HB0 := hide hb0
  have HRes := hide kres
  have hz0 : w0.heap.size = w.heap.size + 1 := by rw [hw0]; simp
  have HZ0 := hide hz0
  clear hw0 hb0 kres hz0
  go_enter Tryz.func32, Tryz.ntmps32
  go_upto_region 4 with (go_at_call 53; rw [← HW0.out]; refine Calls.mono (HIx.out _) ?_; rintro e w1 ⟨rfl, rfl⟩)
  obtain ⟨w2, hw2⟩ : ∃ w2, w2 = w1.alloc (.cells #[.string A, .bool true] 115) := ⟨_, rfl⟩
  have HW2 := hide hw2
  have hb2 : Below w.heap.size w w2 := by rw [hw2]; exact HB0.out.trans ((ba1 _ _).mono HB0.out.size)
  have kr2 : Bk w2 w1.heap.size 115 #[.string A, .bool true] := by rw [hw2]; exact Bk.new _ _ _
  have ks2 := HRes.out.keep (show Below w1.heap.size w1 w2 by rw [hw2]; exact ba1 _ _)
  have HB2 := hide hb2
  have HK2 := hide kr2
  have HS2 := hide ks2
  clear hw2 hb2 kr2 ks2
  go_upto_region 6 with (go_at_call 55; rw [← HW2.out]; refine Calls.mono (HKd.out _ (HL.out.all HB2.out)) ?_; rintro e w3 ⟨rfl, hb3⟩; have HB3 := hide hb3; clear hb3)
  obtain ⟨W, hW⟩ : ∃ W, W = w3.alloc (.cells #[.int .u8 0, .string ⟨#[]⟩, .string ⟨#[]⟩, .string ⟨#[]⟩, .int .i64 0, .slice none 0 0] 39) := ⟨_, rfl⟩
  rw [← hW]
  have hst : StAt w W w1.heap.size w3.heap.size (r, true) #[.int .u8 0, .string ⟨#[]⟩, .string ⟨#[]⟩, .string ⟨#[]⟩, .int .i64 0, .slice none 0 0] := by
    have h3 := HB3.out.trans (show Below w2.heap.size w3 W by rw [hW]; exact (ba1 _ _).mono HB3.out.size)
    have hkw : Bk W w3.heap.size 39 #[.int .u8 0, .string ⟨#[]⟩, .string ⟨#[]⟩, .string ⟨#[]⟩, .int .i64 0, .slice none 0 0] := by rw [hW]; exact Bk.new _ _ _
    have hl : LrAt W w1.heap.size (r, true) := by unfold LrAt; rw [← HAr.out]; exact HK2.out.keep h3
    exact ⟨hl, hkw, HS2.out.keep h3, HB2.out.trans (h3.mono HB2.out.size), by rw [HZ0.out]; omega, Nat.lt_of_lt_of_le HK2.out.lt HB3.out.size⟩
  obtain ⟨gr, hgr⟩ : ∃ gr, gr = w1.heap.size := ⟨_, rfl⟩
  obtain ⟨gx, hgx⟩ : ∃ gx, gx = w3.heap.size := ⟨_, rfl⟩
  rw [← hgr, ← hgx] at hst
  rw [← hgr, ← hgx]
  clear hW HB3 HB2 HK2 HS2 HW2 HW0 HB0 HRes HKd HIx HZ0 hAe hBe hIw haw hal hgr hgx HAr
  clear hk10
  have HS := hide hst
  obtain ⟨lr0, x0, rs0, hb0, hlt1, hlt2⟩ := hst
  have y0 := x0.cell 0
  have lx := x0.lt
  clear lr0 x0 rs0 hb0
  have rs0 := HS.out.2.2.1
  have lrs := rs0.lt
  have fr0 := rs0.free 0
  have rc0 := rs0.cell 0
  have fr1 := rs0.free 1
  have rc1 := rs0.cell 1
  have fr2 := rs0.free 2
  have rc2 := rs0.cell 2
  have fr3 := rs0.free 3
  have rc3 := rs0.cell 3
  have fr4 := rs0.free 4
  have rc4 := rs0.cell 4
  have fr5 := rs0.free 5
  have rc5 := rs0.cell 5
  have HRs0 := hide rs0
  clear rs0 HrL
  go_wp2_with fail
  refine bodyPost_ret (v := .tuple #[stpV noStp (.slice none 0 0), .bool false]) (res_step (put6_bk HRs0.out _ _ _ _ _ _) rfl rfl) rfl ?_
  exact ⟨⟨noStp, _, false, rfl, World.ownsRow_nil _ _ _ _, rfl⟩, put6_below HS.out.2.2.2.1 (Nat.le_refl _) _ _ _ _ _ _⟩
set_option maxRecDepth 100000 in
set_option maxHeartbeats 8000000 in
theorem step_1_1 (s : ByteArray) (w : World) (hs : s.size ≤ 100000000) (hL : Lay w) (hkk : kindB ((bl s).take (spaceI (bl s))) = 1) (hsd : Lib.indexByte (bl s) 32 = (spaceI (bl s) : Int)) :
    Calls Tryz.prog 32 #[.string s] w fun e w' => (∃ (st : Stp) (kv : Value) (b : Bool), e = .returned (.tuple #[stpV st kv, .bool b]) ∧ KpO w' w.heap.size kv st.keep ∧ stepB (bl s) = if b then some st else none) ∧ Below w.heap.size w w' := by
  obtain ⟨a, ha⟩ : ∃ a, a = spaceI (bl s) := ⟨_, rfl⟩
  have hal : a ≤ s.size := by have := space_le (bl s); rw [bl_size] at this; omega
  obtain ⟨A, hA⟩ : ∃ A, A = s.extract a s.size := ⟨_, rfl⟩
  obtain ⟨B, hB⟩ : ∃ B, B = s.extract 0 a := ⟨_, rfl⟩
  have hbA : bl A = (bl s).drop a := by rw [hA, bl_extract, List.take_of_length_le (by rw [bl_size]; exact Nat.le_refl _)]
  have hbB : bl B = (bl s).take a := by rw [hB, bl_extract, List.drop_zero]
  have hAl : A.size ≤ 100000000 := by rw [← bl_size, hbA, List.length_drop, bl_size]; omega
  have hBl : B.size ≤ 100000000 := by rw [← bl_size, hbB, List.length_take, bl_size]; omega
  have hst : stepB (bl s) = stepK (kindB (bl B)) (bl A) := by unfold stepB; rw [hbA, hbB, ha]
  rw [hst]
  have hk10 := kindB_le (bl B)
  have hkd := fun W hW => kind_any B W hBl hW
  obtain ⟨K, hK⟩ : ∃ K, K = kindB (bl B) := ⟨_, rfl⟩
  rw [← hK] at hkd hk10 ⊢
  obtain rfl : K = 1 := by rw [hK, hbB, ha]; exact hkk
  obtain ⟨r, hr⟩ : ∃ r, r = bl A := ⟨_, rfl⟩
  rw [← hr]
  have hAr : A = blB r := by rw [hr, blB_bl]
  have hrl : r.length ≤ 100000000 := by rw [hr, bl_size]; exact hAl
  have HKd := hide hkd
  have HL := hide hL
  have HAr := hide hAr
  have HrL := hide hrl
  have haw : (0 : Int) ≤ (a : Int) := by omega
  have hix : ∀ W, Calls Tryz.prog 53 #[.string s, .int .u8 32] W fun e w' => e = .returned (.int .i64 (a : Nat)) ∧ w' = W := fun W => by
    have := Tryz.strings_IndexByte s 32 W
    rw [show Lib.indexByte s.data.toList ((32 : Int).toNat.toUInt8) = (a : Int) from by rw [ha]; exact hsd] at this
    exact this
  have HIx := hide hix
  have hAe : s.extract a s.size = A := hA.symm
  have hBe : s.extract 0 a = B := hB.symm
  have hIw : IntKind.i64.wrap (a : Int) = (a : Int) := IntWalk.i64_in _ ⟨by omega, by omega⟩
  clear hst hkd hkk hsd hK hr hrl hL hix hAr ha hA hB hbA hbB hAl
  obtain ⟨w0, hw0⟩ : ∃ w0, w0 = w.alloc (.cells #[.int .u8 0, .string ⟨#[]⟩, .string ⟨#[]⟩, .string ⟨#[]⟩, .int .i64 0, .slice none 0 0] 39) := ⟨_, rfl⟩
  have hb0 : Below w.heap.size w w0 := by rw [hw0]; exact ba1 _ _
  have kres : Bk w0 w.heap.size 39 #[.int .u8 0, .string ⟨#[]⟩, .string ⟨#[]⟩, .string ⟨#[]⟩, .int .i64 0, .slice none 0 0] := by rw [hw0]; exact Bk.new _ _ _
  have HW0 := hide hw0
  have HB0 := hide hb0
  have HRes := hide kres
  have hz0 : w0.heap.size = w.heap.size + 1 := by rw [hw0]; simp
  have HZ0 := hide hz0
  clear hw0 hb0 kres hz0
  go_enter Tryz.func32, Tryz.ntmps32
  go_upto_region 4 with (go_at_call 53; rw [← HW0.out]; refine Calls.mono (HIx.out _) ?_; rintro e w1 ⟨rfl, rfl⟩)
  obtain ⟨w2, hw2⟩ : ∃ w2, w2 = w1.alloc (.cells #[.string A, .bool true] 115) := ⟨_, rfl⟩
  have HW2 := hide hw2
  have hb2 : Below w.heap.size w w2 := by rw [hw2]; exact HB0.out.trans ((ba1 _ _).mono HB0.out.size)
  have kr2 : Bk w2 w1.heap.size 115 #[.string A, .bool true] := by rw [hw2]; exact Bk.new _ _ _
  have ks2 := HRes.out.keep (show Below w1.heap.size w1 w2 by rw [hw2]; exact ba1 _ _)
  have HB2 := hide hb2
  have HK2 := hide kr2
  have HS2 := hide ks2
  clear hw2 hb2 kr2 ks2
  go_upto_region 6 with (go_at_call 55; rw [← HW2.out]; refine Calls.mono (HKd.out _ (HL.out.all HB2.out)) ?_; rintro e w3 ⟨rfl, hb3⟩; have HB3 := hide hb3; clear hb3)
  obtain ⟨W, hW⟩ : ∃ W, W = w3.alloc (.cells #[.int .u8 1, .string ⟨#[]⟩, .string ⟨#[]⟩, .string ⟨#[]⟩, .int .i64 0, .slice none 0 0] 39) := ⟨_, rfl⟩
  rw [← hW]
  have hst : StAt w W w1.heap.size w3.heap.size (r, true) #[.int .u8 1, .string ⟨#[]⟩, .string ⟨#[]⟩, .string ⟨#[]⟩, .int .i64 0, .slice none 0 0] := by
    have h3 := HB3.out.trans (show Below w2.heap.size w3 W by rw [hW]; exact (ba1 _ _).mono HB3.out.size)
    have hkw : Bk W w3.heap.size 39 #[.int .u8 1, .string ⟨#[]⟩, .string ⟨#[]⟩, .string ⟨#[]⟩, .int .i64 0, .slice none 0 0] := by rw [hW]; exact Bk.new _ _ _
    have hl : LrAt W w1.heap.size (r, true) := by unfold LrAt; rw [← HAr.out]; exact HK2.out.keep h3
    exact ⟨hl, hkw, HS2.out.keep h3, HB2.out.trans (h3.mono HB2.out.size), by rw [HZ0.out]; omega, Nat.lt_of_lt_of_le HK2.out.lt HB3.out.size⟩
  obtain ⟨gr, hgr⟩ : ∃ gr, gr = w1.heap.size := ⟨_, rfl⟩
  obtain ⟨gx, hgx⟩ : ∃ gx, gx = w3.heap.size := ⟨_, rfl⟩
  rw [← hgr, ← hgx] at hst
  rw [← hgr, ← hgx]
  clear hW HB3 HB2 HK2 HS2 HW2 HW0 HB0 HRes HKd HIx HZ0 hAe hBe hIw haw hal hgr hgx HAr
  clear hk10
  have HS := hide hst
  obtain ⟨lr0, x0, rs0, hb0, hlt1, hlt2⟩ := hst
  have y0 := x0.cell 0
  have lx := x0.lt
  clear lr0 x0 rs0 hb0
  obtain ⟨T1, hT1⟩ : ∃ T, T = rdText (r, true) := ⟨_, rfl⟩
  have cT1 := fun W (h : LrAt W gr (r, true)) => rtext_any gr (r, true) W h HrL.out
  rw [← hT1] at cT1
  obtain ⟨VT1, hVT1⟩ : ∃ V, V = blB T1.1 := ⟨_, rfl⟩
  rw [← hVT1] at cT1
  have hlen1 : T1.2.1.length ≤ 100000000 := by rw [hT1]; exact Nat.le_trans (text_len _) HrL.out
  have HVT1 := hide hVT1
  clear hVT1
  have HCT1 := hide cT1
  have HT1 := hide hT1
  clear cT1 hT1
  go_upto_region 11 with (go_at_call 56; refine Calls.mono (HCT1.out _ HS.out.1) ?_; rintro e w5 ⟨rfl, hl, hf⟩; have HS5 := hide (StAt.call HS.out hf hl); have x5 := HS5.out.2.1; have fz := x5.free 1; have cz := x5.cell 1; have lz := x5.lt; clear hl hf x5)
  obtain ⟨W0, hW0⟩ : ∃ W', W' = w5.setCell ⟨gx, 1, none⟩ (.string VT1) := ⟨_, rfl⟩
  rw [← hW0]
  have hs0 := StAt.set HS5.out 1 (.string VT1)
  rw [← hW0] at hs0
  have HS := hide hs0
  clear hW0 hs0 fz cz lz HS5
  obtain ⟨T2, hT2⟩ : ∃ T, T = rdText T1.2 := ⟨_, rfl⟩
  have cT2 := fun W (h : LrAt W gr T1.2) => rtext_any gr T1.2 W h hlen1
  rw [← hT2] at cT2
  obtain ⟨VT2, hVT2⟩ : ∃ V, V = blB T2.1 := ⟨_, rfl⟩
  rw [← hVT2] at cT2
  have HVT2 := hide hVT2
  clear hVT2
  have HCT2 := hide cT2
  have HT2 := hide hT2
  clear cT2 hT2
  go_upto_region 24 with (go_at_call 56; refine Calls.mono (HCT2.out _ HS.out.1) ?_; rintro e w5 ⟨rfl, hl, hf⟩; have HS5 := hide (StAt.call HS.out hf hl); have x5 := HS5.out.2.1; have fz := x5.free 3; have cz := x5.cell 3; have lz := x5.lt; clear hl hf x5)
  obtain ⟨W1, hW1⟩ : ∃ W', W' = w5.setCell ⟨gx, 3, none⟩ (.string VT2) := ⟨_, rfl⟩
  rw [← hW1]
  have hs1 := StAt.set HS5.out 3 (.string VT2)
  rw [← hW1] at hs1
  have HS := hide hs1
  clear hW1 hs1 fz cz lz HS5
  obtain ⟨q, hq⟩ : ∃ q, q = T2.2 := ⟨_, rfl⟩
  have hsf := HS.out
  rw [← hq] at hsf
  obtain ⟨S, ok⟩ := q
  have HQ := hide hq
  obtain ⟨lr, xr, rr, hbW, _, _⟩ := hsf
  have lr' : Bk W1 gr 115 #[.string (blB S), .bool ok] := lr
  obtain ⟨l0, l1⟩ := two_cells lr'
  obtain ⟨E, hE⟩ : ∃ E, E = (blB S).toList.isEmpty := ⟨_, rfl⟩
  have hE' : (blB S).toList.isEmpty = E := hE.symm
  have hES : (E = true) = (S = []) := by rw [hE, isEmpty_str, blB_size, decide_eq_true_eq, List.length_eq_zero_iff]
  have HES := hide hES
  have x0 := xr.cell 0
  have x1 := xr.cell 1
  have x2 := xr.cell 2
  have x3 := xr.cell 3
  have x4 := xr.cell 4
  have x5 := xr.cell 5
  have r0 := rr.cell 0
  have f0 := rr.free 0
  have r1 := rr.cell 1
  have f1 := rr.free 1
  have r2 := rr.cell 2
  have f2 := rr.free 2
  have r3 := rr.cell 3
  have f3 := rr.free 3
  have r4 := rr.cell 4
  have f4 := rr.free 4
  have r5 := rr.cell 5
  have f5 := rr.free 5
  have lw := rr.lt
  have lx := xr.lt
  have HRR := hide rr
  have HBW := hide hbW
  clear hq lr lr' hE hES hbW rr xr
  cases ok with
  | true =>
    go_region
    all_goals go_wp2_with fail
    refine bodyPost_ret (v := .tuple #[stpV ⟨1, VT1, ⟨#[]⟩, VT2, 0, []⟩ (.slice none 0 0), .bool E]) (res_stepD (put6_bk HRR.out _ _ _ _ _ _) rfl rfl) rfl ?_
    have he : stepK 1 r = if (true && E) = true then some ⟨1, VT1, ⟨#[]⟩, VT2, 0, []⟩ else none := by
      rw [show stepK 1 r = (if (rdText (rdText (r, true)).2).2 = (([] : List UInt8), true) then some ⟨1, blB (rdText (r, true)).1, ⟨#[]⟩, blB (rdText (rdText (r, true)).2).1, 0, []⟩ else none) from rfl, ← HT1.out, ← HT2.out, ← HQ.out, ← HVT1.out, ← HVT2.out]
      exact if_done true HES.out _
    exact ⟨⟨⟨1, VT1, ⟨#[]⟩, VT2, 0, []⟩, (.slice none 0 0), E, rfl, World.ownsRow_nil _ _ _ _, he⟩, Below.drew (put6_below HBW.out (Nat.le_refl _) _ _ _ _ _ _)⟩
  | false =>
    go_region
    all_goals go_wp2_with fail
    refine bodyPost_ret (v := .tuple #[stpV ⟨1, VT1, ⟨#[]⟩, VT2, 0, []⟩ (.slice none 0 0), .bool false]) (res_stepD (put6_bk HRR.out _ _ _ _ _ _) rfl rfl) rfl ?_
    have he : stepK 1 r = if (false && E) = true then some ⟨1, VT1, ⟨#[]⟩, VT2, 0, []⟩ else none := by
      rw [show stepK 1 r = (if (rdText (rdText (r, true)).2).2 = (([] : List UInt8), true) then some ⟨1, blB (rdText (r, true)).1, ⟨#[]⟩, blB (rdText (rdText (r, true)).2).1, 0, []⟩ else none) from rfl, ← HT1.out, ← HT2.out, ← HQ.out, ← HVT1.out, ← HVT2.out]
      exact if_done false HES.out _
    exact ⟨⟨⟨1, VT1, ⟨#[]⟩, VT2, 0, []⟩, (.slice none 0 0), false, rfl, World.ownsRow_nil _ _ _ _, he⟩, Below.drew (put6_below HBW.out (Nat.le_refl _) _ _ _ _ _ _)⟩
set_option maxRecDepth 100000 in
set_option maxHeartbeats 8000000 in
theorem step_1_2 (s : ByteArray) (w : World) (hs : s.size ≤ 100000000) (hL : Lay w) (hkk : kindB ((bl s).take (spaceI (bl s))) = 2) (hsd : Lib.indexByte (bl s) 32 = (spaceI (bl s) : Int)) :
    Calls Tryz.prog 32 #[.string s] w fun e w' => (∃ (st : Stp) (kv : Value) (b : Bool), e = .returned (.tuple #[stpV st kv, .bool b]) ∧ KpO w' w.heap.size kv st.keep ∧ stepB (bl s) = if b then some st else none) ∧ Below w.heap.size w w' := by
  obtain ⟨a, ha⟩ : ∃ a, a = spaceI (bl s) := ⟨_, rfl⟩
  have hal : a ≤ s.size := by have := space_le (bl s); rw [bl_size] at this; omega
  obtain ⟨A, hA⟩ : ∃ A, A = s.extract a s.size := ⟨_, rfl⟩
  obtain ⟨B, hB⟩ : ∃ B, B = s.extract 0 a := ⟨_, rfl⟩
  have hbA : bl A = (bl s).drop a := by rw [hA, bl_extract, List.take_of_length_le (by rw [bl_size]; exact Nat.le_refl _)]
  have hbB : bl B = (bl s).take a := by rw [hB, bl_extract, List.drop_zero]
  have hAl : A.size ≤ 100000000 := by rw [← bl_size, hbA, List.length_drop, bl_size]; omega
  have hBl : B.size ≤ 100000000 := by rw [← bl_size, hbB, List.length_take, bl_size]; omega
  have hst : stepB (bl s) = stepK (kindB (bl B)) (bl A) := by unfold stepB; rw [hbA, hbB, ha]
  rw [hst]
  have hk10 := kindB_le (bl B)
  have hkd := fun W hW => kind_any B W hBl hW
  obtain ⟨K, hK⟩ : ∃ K, K = kindB (bl B) := ⟨_, rfl⟩
  rw [← hK] at hkd hk10 ⊢
  obtain rfl : K = 2 := by rw [hK, hbB, ha]; exact hkk
  obtain ⟨r, hr⟩ : ∃ r, r = bl A := ⟨_, rfl⟩
  rw [← hr]
  have hAr : A = blB r := by rw [hr, blB_bl]
  have hrl : r.length ≤ 100000000 := by rw [hr, bl_size]; exact hAl
  have HKd := hide hkd
  have HL := hide hL
  have HAr := hide hAr
  have HrL := hide hrl
  have haw : (0 : Int) ≤ (a : Int) := by omega
  have hix : ∀ W, Calls Tryz.prog 53 #[.string s, .int .u8 32] W fun e w' => e = .returned (.int .i64 (a : Nat)) ∧ w' = W := fun W => by
    have := Tryz.strings_IndexByte s 32 W
    rw [show Lib.indexByte s.data.toList ((32 : Int).toNat.toUInt8) = (a : Int) from by rw [ha]; exact hsd] at this
    exact this
  have HIx := hide hix
  have hAe : s.extract a s.size = A := hA.symm
  have hBe : s.extract 0 a = B := hB.symm
  have hIw : IntKind.i64.wrap (a : Int) = (a : Int) := IntWalk.i64_in _ ⟨by omega, by omega⟩
  clear hst hkd hkk hsd hK hr hrl hL hix hAr ha hA hB hbA hbB hAl
  obtain ⟨w0, hw0⟩ : ∃ w0, w0 = w.alloc (.cells #[.int .u8 0, .string ⟨#[]⟩, .string ⟨#[]⟩, .string ⟨#[]⟩, .int .i64 0, .slice none 0 0] 39) := ⟨_, rfl⟩
  have hb0 : Below w.heap.size w w0 := by rw [hw0]; exact ba1 _ _
  have kres : Bk w0 w.heap.size 39 #[.int .u8 0, .string ⟨#[]⟩, .string ⟨#[]⟩, .string ⟨#[]⟩, .int .i64 0, .slice none 0 0] := by rw [hw0]; exact Bk.new _ _ _
  have HW0 := hide hw0
  have HB0 := hide hb0
  have HRes := hide kres
  have hz0 : w0.heap.size = w.heap.size + 1 := by rw [hw0]; simp
  have HZ0 := hide hz0
  clear hw0 hb0 kres hz0
  go_enter Tryz.func32, Tryz.ntmps32
  go_upto_region 4 with (go_at_call 53; rw [← HW0.out]; refine Calls.mono (HIx.out _) ?_; rintro e w1 ⟨rfl, rfl⟩)
  obtain ⟨w2, hw2⟩ : ∃ w2, w2 = w1.alloc (.cells #[.string A, .bool true] 115) := ⟨_, rfl⟩
  have HW2 := hide hw2
  have hb2 : Below w.heap.size w w2 := by rw [hw2]; exact HB0.out.trans ((ba1 _ _).mono HB0.out.size)
  have kr2 : Bk w2 w1.heap.size 115 #[.string A, .bool true] := by rw [hw2]; exact Bk.new _ _ _
  have ks2 := HRes.out.keep (show Below w1.heap.size w1 w2 by rw [hw2]; exact ba1 _ _)
  have HB2 := hide hb2
  have HK2 := hide kr2
  have HS2 := hide ks2
  clear hw2 hb2 kr2 ks2
  go_upto_region 6 with (go_at_call 55; rw [← HW2.out]; refine Calls.mono (HKd.out _ (HL.out.all HB2.out)) ?_; rintro e w3 ⟨rfl, hb3⟩; have HB3 := hide hb3; clear hb3)
  obtain ⟨W, hW⟩ : ∃ W, W = w3.alloc (.cells #[.int .u8 2, .string ⟨#[]⟩, .string ⟨#[]⟩, .string ⟨#[]⟩, .int .i64 0, .slice none 0 0] 39) := ⟨_, rfl⟩
  rw [← hW]
  have hst : StAt w W w1.heap.size w3.heap.size (r, true) #[.int .u8 2, .string ⟨#[]⟩, .string ⟨#[]⟩, .string ⟨#[]⟩, .int .i64 0, .slice none 0 0] := by
    have h3 := HB3.out.trans (show Below w2.heap.size w3 W by rw [hW]; exact (ba1 _ _).mono HB3.out.size)
    have hkw : Bk W w3.heap.size 39 #[.int .u8 2, .string ⟨#[]⟩, .string ⟨#[]⟩, .string ⟨#[]⟩, .int .i64 0, .slice none 0 0] := by rw [hW]; exact Bk.new _ _ _
    have hl : LrAt W w1.heap.size (r, true) := by unfold LrAt; rw [← HAr.out]; exact HK2.out.keep h3
    exact ⟨hl, hkw, HS2.out.keep h3, HB2.out.trans (h3.mono HB2.out.size), by rw [HZ0.out]; omega, Nat.lt_of_lt_of_le HK2.out.lt HB3.out.size⟩
  obtain ⟨gr, hgr⟩ : ∃ gr, gr = w1.heap.size := ⟨_, rfl⟩
  obtain ⟨gx, hgx⟩ : ∃ gx, gx = w3.heap.size := ⟨_, rfl⟩
  rw [← hgr, ← hgx] at hst
  rw [← hgr, ← hgx]
  clear hW HB3 HB2 HK2 HS2 HW2 HW0 HB0 HRes HKd HIx HZ0 hAe hBe hIw haw hal hgr hgx HAr
  clear hk10
  have HS := hide hst
  obtain ⟨lr0, x0, rs0, hb0, hlt1, hlt2⟩ := hst
  have y0 := x0.cell 0
  have lx := x0.lt
  clear lr0 x0 rs0 hb0
  obtain ⟨T1, hT1⟩ : ∃ T, T = rdText (r, true) := ⟨_, rfl⟩
  have cT1 := fun W (h : LrAt W gr (r, true)) => rtext_any gr (r, true) W h HrL.out
  rw [← hT1] at cT1
  obtain ⟨VT1, hVT1⟩ : ∃ V, V = blB T1.1 := ⟨_, rfl⟩
  rw [← hVT1] at cT1
  have HVT1 := hide hVT1
  clear hVT1
  have HCT1 := hide cT1
  have HT1 := hide hT1
  clear cT1 hT1
  go_upto_region 24 with (go_at_call 56; refine Calls.mono (HCT1.out _ HS.out.1) ?_; rintro e w5 ⟨rfl, hl, hf⟩; have HS5 := hide (StAt.call HS.out hf hl); have x5 := HS5.out.2.1; have fz := x5.free 1; have cz := x5.cell 1; have lz := x5.lt; clear hl hf x5)
  obtain ⟨W0, hW0⟩ : ∃ W', W' = w5.setCell ⟨gx, 1, none⟩ (.string VT1) := ⟨_, rfl⟩
  rw [← hW0]
  have hs0 := StAt.set HS5.out 1 (.string VT1)
  rw [← hW0] at hs0
  have HS := hide hs0
  clear hW0 hs0 fz cz lz HS5
  obtain ⟨q, hq⟩ : ∃ q, q = T1.2 := ⟨_, rfl⟩
  have hsf := HS.out
  rw [← hq] at hsf
  obtain ⟨S, ok⟩ := q
  have HQ := hide hq
  obtain ⟨lr, xr, rr, hbW, _, _⟩ := hsf
  have lr' : Bk W0 gr 115 #[.string (blB S), .bool ok] := lr
  obtain ⟨l0, l1⟩ := two_cells lr'
  obtain ⟨E, hE⟩ : ∃ E, E = (blB S).toList.isEmpty := ⟨_, rfl⟩
  have hE' : (blB S).toList.isEmpty = E := hE.symm
  have hES : (E = true) = (S = []) := by rw [hE, isEmpty_str, blB_size, decide_eq_true_eq, List.length_eq_zero_iff]
  have HES := hide hES
  have x0 := xr.cell 0
  have x1 := xr.cell 1
  have x2 := xr.cell 2
  have x3 := xr.cell 3
  have x4 := xr.cell 4
  have x5 := xr.cell 5
  have r0 := rr.cell 0
  have f0 := rr.free 0
  have r1 := rr.cell 1
  have f1 := rr.free 1
  have r2 := rr.cell 2
  have f2 := rr.free 2
  have r3 := rr.cell 3
  have f3 := rr.free 3
  have r4 := rr.cell 4
  have f4 := rr.free 4
  have r5 := rr.cell 5
  have f5 := rr.free 5
  have lw := rr.lt
  have lx := xr.lt
  have HRR := hide rr
  have HBW := hide hbW
  clear hq lr lr' hE hES hbW rr xr
  cases ok with
  | true =>
    go_region
    all_goals go_wp2_with fail
    refine bodyPost_ret (v := .tuple #[stpV ⟨2, VT1, ⟨#[]⟩, ⟨#[]⟩, 0, []⟩ (.slice none 0 0), .bool E]) (res_stepD (put6_bk HRR.out _ _ _ _ _ _) rfl rfl) rfl ?_
    have he : stepK 2 r = if (true && E) = true then some ⟨2, VT1, ⟨#[]⟩, ⟨#[]⟩, 0, []⟩ else none := by
      rw [show stepK 2 r = (if (rdText (r, true)).2 = (([] : List UInt8), true) then some ⟨2, blB (rdText (r, true)).1, ⟨#[]⟩, ⟨#[]⟩, 0, []⟩ else none) from rfl, ← HT1.out, ← HQ.out, ← HVT1.out]
      exact if_done true HES.out _
    exact ⟨⟨⟨2, VT1, ⟨#[]⟩, ⟨#[]⟩, 0, []⟩, (.slice none 0 0), E, rfl, World.ownsRow_nil _ _ _ _, he⟩, Below.drew (put6_below HBW.out (Nat.le_refl _) _ _ _ _ _ _)⟩
  | false =>
    go_region
    all_goals go_wp2_with fail
    refine bodyPost_ret (v := .tuple #[stpV ⟨2, VT1, ⟨#[]⟩, ⟨#[]⟩, 0, []⟩ (.slice none 0 0), .bool false]) (res_stepD (put6_bk HRR.out _ _ _ _ _ _) rfl rfl) rfl ?_
    have he : stepK 2 r = if (false && E) = true then some ⟨2, VT1, ⟨#[]⟩, ⟨#[]⟩, 0, []⟩ else none := by
      rw [show stepK 2 r = (if (rdText (r, true)).2 = (([] : List UInt8), true) then some ⟨2, blB (rdText (r, true)).1, ⟨#[]⟩, ⟨#[]⟩, 0, []⟩ else none) from rfl, ← HT1.out, ← HQ.out, ← HVT1.out]
      exact if_done false HES.out _
    exact ⟨⟨⟨2, VT1, ⟨#[]⟩, ⟨#[]⟩, 0, []⟩, (.slice none 0 0), false, rfl, World.ownsRow_nil _ _ _ _, he⟩, Below.drew (put6_below HBW.out (Nat.le_refl _) _ _ _ _ _ _)⟩
set_option maxRecDepth 100000 in
set_option maxHeartbeats 8000000 in
theorem step_1_3 (s : ByteArray) (w : World) (hs : s.size ≤ 100000000) (hL : Lay w) (hkk : kindB ((bl s).take (spaceI (bl s))) = 3) (hsd : Lib.indexByte (bl s) 32 = (spaceI (bl s) : Int)) :
    Calls Tryz.prog 32 #[.string s] w fun e w' => (∃ (st : Stp) (kv : Value) (b : Bool), e = .returned (.tuple #[stpV st kv, .bool b]) ∧ KpO w' w.heap.size kv st.keep ∧ stepB (bl s) = if b then some st else none) ∧ Below w.heap.size w w' := by
  obtain ⟨a, ha⟩ : ∃ a, a = spaceI (bl s) := ⟨_, rfl⟩
  have hal : a ≤ s.size := by have := space_le (bl s); rw [bl_size] at this; omega
  obtain ⟨A, hA⟩ : ∃ A, A = s.extract a s.size := ⟨_, rfl⟩
  obtain ⟨B, hB⟩ : ∃ B, B = s.extract 0 a := ⟨_, rfl⟩
  have hbA : bl A = (bl s).drop a := by rw [hA, bl_extract, List.take_of_length_le (by rw [bl_size]; exact Nat.le_refl _)]
  have hbB : bl B = (bl s).take a := by rw [hB, bl_extract, List.drop_zero]
  have hAl : A.size ≤ 100000000 := by rw [← bl_size, hbA, List.length_drop, bl_size]; omega
  have hBl : B.size ≤ 100000000 := by rw [← bl_size, hbB, List.length_take, bl_size]; omega
  have hst : stepB (bl s) = stepK (kindB (bl B)) (bl A) := by unfold stepB; rw [hbA, hbB, ha]
  rw [hst]
  have hk10 := kindB_le (bl B)
  have hkd := fun W hW => kind_any B W hBl hW
  obtain ⟨K, hK⟩ : ∃ K, K = kindB (bl B) := ⟨_, rfl⟩
  rw [← hK] at hkd hk10 ⊢
  obtain rfl : K = 3 := by rw [hK, hbB, ha]; exact hkk
  obtain ⟨r, hr⟩ : ∃ r, r = bl A := ⟨_, rfl⟩
  rw [← hr]
  have hAr : A = blB r := by rw [hr, blB_bl]
  have hrl : r.length ≤ 100000000 := by rw [hr, bl_size]; exact hAl
  have HKd := hide hkd
  have HL := hide hL
  have HAr := hide hAr
  have HrL := hide hrl
  have haw : (0 : Int) ≤ (a : Int) := by omega
  have hix : ∀ W, Calls Tryz.prog 53 #[.string s, .int .u8 32] W fun e w' => e = .returned (.int .i64 (a : Nat)) ∧ w' = W := fun W => by
    have := Tryz.strings_IndexByte s 32 W
    rw [show Lib.indexByte s.data.toList ((32 : Int).toNat.toUInt8) = (a : Int) from by rw [ha]; exact hsd] at this
    exact this
  have HIx := hide hix
  have hAe : s.extract a s.size = A := hA.symm
  have hBe : s.extract 0 a = B := hB.symm
  have hIw : IntKind.i64.wrap (a : Int) = (a : Int) := IntWalk.i64_in _ ⟨by omega, by omega⟩
  clear hst hkd hkk hsd hK hr hrl hL hix hAr ha hA hB hbA hbB hAl
  obtain ⟨w0, hw0⟩ : ∃ w0, w0 = w.alloc (.cells #[.int .u8 0, .string ⟨#[]⟩, .string ⟨#[]⟩, .string ⟨#[]⟩, .int .i64 0, .slice none 0 0] 39) := ⟨_, rfl⟩
  have hb0 : Below w.heap.size w w0 := by rw [hw0]; exact ba1 _ _
  have kres : Bk w0 w.heap.size 39 #[.int .u8 0, .string ⟨#[]⟩, .string ⟨#[]⟩, .string ⟨#[]⟩, .int .i64 0, .slice none 0 0] := by rw [hw0]; exact Bk.new _ _ _
  have HW0 := hide hw0
  have HB0 := hide hb0
  have HRes := hide kres
  have hz0 : w0.heap.size = w.heap.size + 1 := by rw [hw0]; simp
  have HZ0 := hide hz0
  clear hw0 hb0 kres hz0
  go_enter Tryz.func32, Tryz.ntmps32
  go_upto_region 4 with (go_at_call 53; rw [← HW0.out]; refine Calls.mono (HIx.out _) ?_; rintro e w1 ⟨rfl, rfl⟩)
  obtain ⟨w2, hw2⟩ : ∃ w2, w2 = w1.alloc (.cells #[.string A, .bool true] 115) := ⟨_, rfl⟩
  have HW2 := hide hw2
  have hb2 : Below w.heap.size w w2 := by rw [hw2]; exact HB0.out.trans ((ba1 _ _).mono HB0.out.size)
  have kr2 : Bk w2 w1.heap.size 115 #[.string A, .bool true] := by rw [hw2]; exact Bk.new _ _ _
  have ks2 := HRes.out.keep (show Below w1.heap.size w1 w2 by rw [hw2]; exact ba1 _ _)
  have HB2 := hide hb2
  have HK2 := hide kr2
  have HS2 := hide ks2
  clear hw2 hb2 kr2 ks2
  go_upto_region 6 with (go_at_call 55; rw [← HW2.out]; refine Calls.mono (HKd.out _ (HL.out.all HB2.out)) ?_; rintro e w3 ⟨rfl, hb3⟩; have HB3 := hide hb3; clear hb3)
  obtain ⟨W, hW⟩ : ∃ W, W = w3.alloc (.cells #[.int .u8 3, .string ⟨#[]⟩, .string ⟨#[]⟩, .string ⟨#[]⟩, .int .i64 0, .slice none 0 0] 39) := ⟨_, rfl⟩
  rw [← hW]
  have hst : StAt w W w1.heap.size w3.heap.size (r, true) #[.int .u8 3, .string ⟨#[]⟩, .string ⟨#[]⟩, .string ⟨#[]⟩, .int .i64 0, .slice none 0 0] := by
    have h3 := HB3.out.trans (show Below w2.heap.size w3 W by rw [hW]; exact (ba1 _ _).mono HB3.out.size)
    have hkw : Bk W w3.heap.size 39 #[.int .u8 3, .string ⟨#[]⟩, .string ⟨#[]⟩, .string ⟨#[]⟩, .int .i64 0, .slice none 0 0] := by rw [hW]; exact Bk.new _ _ _
    have hl : LrAt W w1.heap.size (r, true) := by unfold LrAt; rw [← HAr.out]; exact HK2.out.keep h3
    exact ⟨hl, hkw, HS2.out.keep h3, HB2.out.trans (h3.mono HB2.out.size), by rw [HZ0.out]; omega, Nat.lt_of_lt_of_le HK2.out.lt HB3.out.size⟩
  obtain ⟨gr, hgr⟩ : ∃ gr, gr = w1.heap.size := ⟨_, rfl⟩
  obtain ⟨gx, hgx⟩ : ∃ gx, gx = w3.heap.size := ⟨_, rfl⟩
  rw [← hgr, ← hgx] at hst
  rw [← hgr, ← hgx]
  clear hW HB3 HB2 HK2 HS2 HW2 HW0 HB0 HRes HKd HIx HZ0 hAe hBe hIw haw hal hgr hgx HAr
  clear hk10
  have HS := hide hst
  obtain ⟨lr0, x0, rs0, hb0, hlt1, hlt2⟩ := hst
  have y0 := x0.cell 0
  have lx := x0.lt
  clear lr0 x0 rs0 hb0
  obtain ⟨T1, hT1⟩ : ∃ T, T = rdText (r, true) := ⟨_, rfl⟩
  have cT1 := fun W (h : LrAt W gr (r, true)) => rtext_any gr (r, true) W h HrL.out
  rw [← hT1] at cT1
  obtain ⟨VT1, hVT1⟩ : ∃ V, V = blB T1.1 := ⟨_, rfl⟩
  rw [← hVT1] at cT1
  have HVT1 := hide hVT1
  clear hVT1
  have HCT1 := hide cT1
  have HT1 := hide hT1
  clear cT1 hT1
  go_upto_region 24 with (go_at_call 56; refine Calls.mono (HCT1.out _ HS.out.1) ?_; rintro e w5 ⟨rfl, hl, hf⟩; have HS5 := hide (StAt.call HS.out hf hl); have x5 := HS5.out.2.1; have fz := x5.free 1; have cz := x5.cell 1; have lz := x5.lt; clear hl hf x5)
  obtain ⟨W0, hW0⟩ : ∃ W', W' = w5.setCell ⟨gx, 1, none⟩ (.string VT1) := ⟨_, rfl⟩
  rw [← hW0]
  have hs0 := StAt.set HS5.out 1 (.string VT1)
  rw [← hW0] at hs0
  have HS := hide hs0
  clear hW0 hs0 fz cz lz HS5
  obtain ⟨q, hq⟩ : ∃ q, q = T1.2 := ⟨_, rfl⟩
  have hsf := HS.out
  rw [← hq] at hsf
  obtain ⟨S, ok⟩ := q
  have HQ := hide hq
  obtain ⟨lr, xr, rr, hbW, _, _⟩ := hsf
  have lr' : Bk W0 gr 115 #[.string (blB S), .bool ok] := lr
  obtain ⟨l0, l1⟩ := two_cells lr'
  obtain ⟨E, hE⟩ : ∃ E, E = (blB S).toList.isEmpty := ⟨_, rfl⟩
  have hE' : (blB S).toList.isEmpty = E := hE.symm
  have hES : (E = true) = (S = []) := by rw [hE, isEmpty_str, blB_size, decide_eq_true_eq, List.length_eq_zero_iff]
  have HES := hide hES
  have x0 := xr.cell 0
  have x1 := xr.cell 1
  have x2 := xr.cell 2
  have x3 := xr.cell 3
  have x4 := xr.cell 4
  have x5 := xr.cell 5
  have r0 := rr.cell 0
  have f0 := rr.free 0
  have r1 := rr.cell 1
  have f1 := rr.free 1
  have r2 := rr.cell 2
  have f2 := rr.free 2
  have r3 := rr.cell 3
  have f3 := rr.free 3
  have r4 := rr.cell 4
  have f4 := rr.free 4
  have r5 := rr.cell 5
  have f5 := rr.free 5
  have lw := rr.lt
  have lx := xr.lt
  have HRR := hide rr
  have HBW := hide hbW
  clear hq lr lr' hE hES hbW rr xr
  cases ok with
  | true =>
    go_region
    all_goals go_wp2_with fail
    refine bodyPost_ret (v := .tuple #[stpV ⟨3, VT1, ⟨#[]⟩, ⟨#[]⟩, 0, []⟩ (.slice none 0 0), .bool E]) (res_stepD (put6_bk HRR.out _ _ _ _ _ _) rfl rfl) rfl ?_
    have he : stepK 3 r = if (true && E) = true then some ⟨3, VT1, ⟨#[]⟩, ⟨#[]⟩, 0, []⟩ else none := by
      rw [show stepK 3 r = (if (rdText (r, true)).2 = (([] : List UInt8), true) then some ⟨3, blB (rdText (r, true)).1, ⟨#[]⟩, ⟨#[]⟩, 0, []⟩ else none) from rfl, ← HT1.out, ← HQ.out, ← HVT1.out]
      exact if_done true HES.out _
    exact ⟨⟨⟨3, VT1, ⟨#[]⟩, ⟨#[]⟩, 0, []⟩, (.slice none 0 0), E, rfl, World.ownsRow_nil _ _ _ _, he⟩, Below.drew (put6_below HBW.out (Nat.le_refl _) _ _ _ _ _ _)⟩
  | false =>
    go_region
    all_goals go_wp2_with fail
    refine bodyPost_ret (v := .tuple #[stpV ⟨3, VT1, ⟨#[]⟩, ⟨#[]⟩, 0, []⟩ (.slice none 0 0), .bool false]) (res_stepD (put6_bk HRR.out _ _ _ _ _ _) rfl rfl) rfl ?_
    have he : stepK 3 r = if (false && E) = true then some ⟨3, VT1, ⟨#[]⟩, ⟨#[]⟩, 0, []⟩ else none := by
      rw [show stepK 3 r = (if (rdText (r, true)).2 = (([] : List UInt8), true) then some ⟨3, blB (rdText (r, true)).1, ⟨#[]⟩, ⟨#[]⟩, 0, []⟩ else none) from rfl, ← HT1.out, ← HQ.out, ← HVT1.out]
      exact if_done false HES.out _
    exact ⟨⟨⟨3, VT1, ⟨#[]⟩, ⟨#[]⟩, 0, []⟩, (.slice none 0 0), false, rfl, World.ownsRow_nil _ _ _ _, he⟩, Below.drew (put6_below HBW.out (Nat.le_refl _) _ _ _ _ _ _)⟩
set_option maxRecDepth 100000 in
set_option maxHeartbeats 8000000 in
theorem step_1_4 (s : ByteArray) (w : World) (hs : s.size ≤ 100000000) (hL : Lay w) (hkk : kindB ((bl s).take (spaceI (bl s))) = 4) (hsd : Lib.indexByte (bl s) 32 = (spaceI (bl s) : Int)) :
    Calls Tryz.prog 32 #[.string s] w fun e w' => (∃ (st : Stp) (kv : Value) (b : Bool), e = .returned (.tuple #[stpV st kv, .bool b]) ∧ KpO w' w.heap.size kv st.keep ∧ stepB (bl s) = if b then some st else none) ∧ Below w.heap.size w w' := by
  obtain ⟨a, ha⟩ : ∃ a, a = spaceI (bl s) := ⟨_, rfl⟩
  have hal : a ≤ s.size := by have := space_le (bl s); rw [bl_size] at this; omega
  obtain ⟨A, hA⟩ : ∃ A, A = s.extract a s.size := ⟨_, rfl⟩
  obtain ⟨B, hB⟩ : ∃ B, B = s.extract 0 a := ⟨_, rfl⟩
  have hbA : bl A = (bl s).drop a := by rw [hA, bl_extract, List.take_of_length_le (by rw [bl_size]; exact Nat.le_refl _)]
  have hbB : bl B = (bl s).take a := by rw [hB, bl_extract, List.drop_zero]
  have hAl : A.size ≤ 100000000 := by rw [← bl_size, hbA, List.length_drop, bl_size]; omega
  have hBl : B.size ≤ 100000000 := by rw [← bl_size, hbB, List.length_take, bl_size]; omega
  have hst : stepB (bl s) = stepK (kindB (bl B)) (bl A) := by unfold stepB; rw [hbA, hbB, ha]
  rw [hst]
  have hk10 := kindB_le (bl B)
  have hkd := fun W hW => kind_any B W hBl hW
  obtain ⟨K, hK⟩ : ∃ K, K = kindB (bl B) := ⟨_, rfl⟩
  rw [← hK] at hkd hk10 ⊢
  obtain rfl : K = 4 := by rw [hK, hbB, ha]; exact hkk
  obtain ⟨r, hr⟩ : ∃ r, r = bl A := ⟨_, rfl⟩
  rw [← hr]
  have hAr : A = blB r := by rw [hr, blB_bl]
  have hrl : r.length ≤ 100000000 := by rw [hr, bl_size]; exact hAl
  have HKd := hide hkd
  have HL := hide hL
  have HAr := hide hAr
  have HrL := hide hrl
  have haw : (0 : Int) ≤ (a : Int) := by omega
  have hix : ∀ W, Calls Tryz.prog 53 #[.string s, .int .u8 32] W fun e w' => e = .returned (.int .i64 (a : Nat)) ∧ w' = W := fun W => by
    have := Tryz.strings_IndexByte s 32 W
    rw [show Lib.indexByte s.data.toList ((32 : Int).toNat.toUInt8) = (a : Int) from by rw [ha]; exact hsd] at this
    exact this
  have HIx := hide hix
  have hAe : s.extract a s.size = A := hA.symm
  have hBe : s.extract 0 a = B := hB.symm
  have hIw : IntKind.i64.wrap (a : Int) = (a : Int) := IntWalk.i64_in _ ⟨by omega, by omega⟩
  clear hst hkd hkk hsd hK hr hrl hL hix hAr ha hA hB hbA hbB hAl
  obtain ⟨w0, hw0⟩ : ∃ w0, w0 = w.alloc (.cells #[.int .u8 0, .string ⟨#[]⟩, .string ⟨#[]⟩, .string ⟨#[]⟩, .int .i64 0, .slice none 0 0] 39) := ⟨_, rfl⟩
  have hb0 : Below w.heap.size w w0 := by rw [hw0]; exact ba1 _ _
  have kres : Bk w0 w.heap.size 39 #[.int .u8 0, .string ⟨#[]⟩, .string ⟨#[]⟩, .string ⟨#[]⟩, .int .i64 0, .slice none 0 0] := by rw [hw0]; exact Bk.new _ _ _
  have HW0 := hide hw0
  have HB0 := hide hb0
  have HRes := hide kres
  have hz0 : w0.heap.size = w.heap.size + 1 := by rw [hw0]; simp
  have HZ0 := hide hz0
  clear hw0 hb0 kres hz0
  go_enter Tryz.func32, Tryz.ntmps32
  go_upto_region 4 with (go_at_call 53; rw [← HW0.out]; refine Calls.mono (HIx.out _) ?_; rintro e w1 ⟨rfl, rfl⟩)
  obtain ⟨w2, hw2⟩ : ∃ w2, w2 = w1.alloc (.cells #[.string A, .bool true] 115) := ⟨_, rfl⟩
  have HW2 := hide hw2
  have hb2 : Below w.heap.size w w2 := by rw [hw2]; exact HB0.out.trans ((ba1 _ _).mono HB0.out.size)
  have kr2 : Bk w2 w1.heap.size 115 #[.string A, .bool true] := by rw [hw2]; exact Bk.new _ _ _
  have ks2 := HRes.out.keep (show Below w1.heap.size w1 w2 by rw [hw2]; exact ba1 _ _)
  have HB2 := hide hb2
  have HK2 := hide kr2
  have HS2 := hide ks2
  clear hw2 hb2 kr2 ks2
  go_upto_region 6 with (go_at_call 55; rw [← HW2.out]; refine Calls.mono (HKd.out _ (HL.out.all HB2.out)) ?_; rintro e w3 ⟨rfl, hb3⟩; have HB3 := hide hb3; clear hb3)
  obtain ⟨W, hW⟩ : ∃ W, W = w3.alloc (.cells #[.int .u8 4, .string ⟨#[]⟩, .string ⟨#[]⟩, .string ⟨#[]⟩, .int .i64 0, .slice none 0 0] 39) := ⟨_, rfl⟩
  rw [← hW]
  have hst : StAt w W w1.heap.size w3.heap.size (r, true) #[.int .u8 4, .string ⟨#[]⟩, .string ⟨#[]⟩, .string ⟨#[]⟩, .int .i64 0, .slice none 0 0] := by
    have h3 := HB3.out.trans (show Below w2.heap.size w3 W by rw [hW]; exact (ba1 _ _).mono HB3.out.size)
    have hkw : Bk W w3.heap.size 39 #[.int .u8 4, .string ⟨#[]⟩, .string ⟨#[]⟩, .string ⟨#[]⟩, .int .i64 0, .slice none 0 0] := by rw [hW]; exact Bk.new _ _ _
    have hl : LrAt W w1.heap.size (r, true) := by unfold LrAt; rw [← HAr.out]; exact HK2.out.keep h3
    exact ⟨hl, hkw, HS2.out.keep h3, HB2.out.trans (h3.mono HB2.out.size), by rw [HZ0.out]; omega, Nat.lt_of_lt_of_le HK2.out.lt HB3.out.size⟩
  obtain ⟨gr, hgr⟩ : ∃ gr, gr = w1.heap.size := ⟨_, rfl⟩
  obtain ⟨gx, hgx⟩ : ∃ gx, gx = w3.heap.size := ⟨_, rfl⟩
  rw [← hgr, ← hgx] at hst
  rw [← hgr, ← hgx]
  clear hW HB3 HB2 HK2 HS2 HW2 HW0 HB0 HRes HKd HIx HZ0 hAe hBe hIw haw hal hgr hgx HAr
  clear hk10
  have HS := hide hst
  obtain ⟨lr0, x0, rs0, hb0, hlt1, hlt2⟩ := hst
  have y0 := x0.cell 0
  have lx := x0.lt
  clear lr0 x0 rs0 hb0
  obtain ⟨T1, hT1⟩ : ∃ T, T = rdText (r, true) := ⟨_, rfl⟩
  have cT1 := fun W (h : LrAt W gr (r, true)) => rtext_any gr (r, true) W h HrL.out
  rw [← hT1] at cT1
  obtain ⟨VT1, hVT1⟩ : ∃ V, V = blB T1.1 := ⟨_, rfl⟩
  rw [← hVT1] at cT1
  have hlen1 : T1.2.1.length ≤ 100000000 := by rw [hT1]; exact Nat.le_trans (text_len _) HrL.out
  have HVT1 := hide hVT1
  clear hVT1
  have HCT1 := hide cT1
  have HT1 := hide hT1
  clear cT1 hT1
  go_upto_region 15 with (go_at_call 56; refine Calls.mono (HCT1.out _ HS.out.1) ?_; rintro e w5 ⟨rfl, hl, hf⟩; have HS5 := hide (StAt.call HS.out hf hl); have x5 := HS5.out.2.1; have fz := x5.free 1; have cz := x5.cell 1; have lz := x5.lt; clear hl hf x5)
  obtain ⟨W0, hW0⟩ : ∃ W', W' = w5.setCell ⟨gx, 1, none⟩ (.string VT1) := ⟨_, rfl⟩
  rw [← hW0]
  have hs0 := StAt.set HS5.out 1 (.string VT1)
  rw [← hW0] at hs0
  have HS := hide hs0
  clear hW0 hs0 fz cz lz HS5
  obtain ⟨T2, hT2⟩ : ∃ T, T = rdText T1.2 := ⟨_, rfl⟩
  have cT2 := fun W (h : LrAt W gr T1.2) => rtext_any gr T1.2 W h hlen1
  rw [← hT2] at cT2
  obtain ⟨VT2, hVT2⟩ : ∃ V, V = blB T2.1 := ⟨_, rfl⟩
  rw [← hVT2] at cT2
  have HVT2 := hide hVT2
  clear hVT2
  have HCT2 := hide cT2
  have HT2 := hide hT2
  clear cT2 hT2
  go_upto_region 24 with (go_at_call 56; refine Calls.mono (HCT2.out _ HS.out.1) ?_; rintro e w5 ⟨rfl, hl, hf⟩; have HS5 := hide (StAt.call HS.out hf hl); have x5 := HS5.out.2.1; have fz := x5.free 2; have cz := x5.cell 2; have lz := x5.lt; clear hl hf x5)
  obtain ⟨W1, hW1⟩ : ∃ W', W' = w5.setCell ⟨gx, 2, none⟩ (.string VT2) := ⟨_, rfl⟩
  rw [← hW1]
  have hs1 := StAt.set HS5.out 2 (.string VT2)
  rw [← hW1] at hs1
  have HS := hide hs1
  clear hW1 hs1 fz cz lz HS5
  obtain ⟨q, hq⟩ : ∃ q, q = T2.2 := ⟨_, rfl⟩
  have hsf := HS.out
  rw [← hq] at hsf
  obtain ⟨S, ok⟩ := q
  have HQ := hide hq
  obtain ⟨lr, xr, rr, hbW, _, _⟩ := hsf
  have lr' : Bk W1 gr 115 #[.string (blB S), .bool ok] := lr
  obtain ⟨l0, l1⟩ := two_cells lr'
  obtain ⟨E, hE⟩ : ∃ E, E = (blB S).toList.isEmpty := ⟨_, rfl⟩
  have hE' : (blB S).toList.isEmpty = E := hE.symm
  have hES : (E = true) = (S = []) := by rw [hE, isEmpty_str, blB_size, decide_eq_true_eq, List.length_eq_zero_iff]
  have HES := hide hES
  have x0 := xr.cell 0
  have x1 := xr.cell 1
  have x2 := xr.cell 2
  have x3 := xr.cell 3
  have x4 := xr.cell 4
  have x5 := xr.cell 5
  have r0 := rr.cell 0
  have f0 := rr.free 0
  have r1 := rr.cell 1
  have f1 := rr.free 1
  have r2 := rr.cell 2
  have f2 := rr.free 2
  have r3 := rr.cell 3
  have f3 := rr.free 3
  have r4 := rr.cell 4
  have f4 := rr.free 4
  have r5 := rr.cell 5
  have f5 := rr.free 5
  have lw := rr.lt
  have lx := xr.lt
  have HRR := hide rr
  have HBW := hide hbW
  clear hq lr lr' hE hES hbW rr xr
  cases ok with
  | true =>
    go_region
    all_goals go_wp2_with fail
    refine bodyPost_ret (v := .tuple #[stpV ⟨4, VT1, VT2, ⟨#[]⟩, 0, []⟩ (.slice none 0 0), .bool E]) (res_stepD (put6_bk HRR.out _ _ _ _ _ _) rfl rfl) rfl ?_
    have he : stepK 4 r = if (true && E) = true then some ⟨4, VT1, VT2, ⟨#[]⟩, 0, []⟩ else none := by
      rw [show stepK 4 r = (if (rdText (rdText (r, true)).2).2 = (([] : List UInt8), true) then some ⟨4, blB (rdText (r, true)).1, blB (rdText (rdText (r, true)).2).1, ⟨#[]⟩, 0, []⟩ else none) from rfl, ← HT1.out, ← HT2.out, ← HQ.out, ← HVT1.out, ← HVT2.out]
      exact if_done true HES.out _
    exact ⟨⟨⟨4, VT1, VT2, ⟨#[]⟩, 0, []⟩, (.slice none 0 0), E, rfl, World.ownsRow_nil _ _ _ _, he⟩, Below.drew (put6_below HBW.out (Nat.le_refl _) _ _ _ _ _ _)⟩
  | false =>
    go_region
    all_goals go_wp2_with fail
    refine bodyPost_ret (v := .tuple #[stpV ⟨4, VT1, VT2, ⟨#[]⟩, 0, []⟩ (.slice none 0 0), .bool false]) (res_stepD (put6_bk HRR.out _ _ _ _ _ _) rfl rfl) rfl ?_
    have he : stepK 4 r = if (false && E) = true then some ⟨4, VT1, VT2, ⟨#[]⟩, 0, []⟩ else none := by
      rw [show stepK 4 r = (if (rdText (rdText (r, true)).2).2 = (([] : List UInt8), true) then some ⟨4, blB (rdText (r, true)).1, blB (rdText (rdText (r, true)).2).1, ⟨#[]⟩, 0, []⟩ else none) from rfl, ← HT1.out, ← HT2.out, ← HQ.out, ← HVT1.out, ← HVT2.out]
      exact if_done false HES.out _
    exact ⟨⟨⟨4, VT1, VT2, ⟨#[]⟩, 0, []⟩, (.slice none 0 0), false, rfl, World.ownsRow_nil _ _ _ _, he⟩, Below.drew (put6_below HBW.out (Nat.le_refl _) _ _ _ _ _ _)⟩
set_option maxRecDepth 100000 in
set_option maxHeartbeats 8000000 in
theorem step_1_5 (s : ByteArray) (w : World) (hs : s.size ≤ 100000000) (hL : Lay w) (hkk : kindB ((bl s).take (spaceI (bl s))) = 5) (hsd : Lib.indexByte (bl s) 32 = (spaceI (bl s) : Int)) :
    Calls Tryz.prog 32 #[.string s] w fun e w' => (∃ (st : Stp) (kv : Value) (b : Bool), e = .returned (.tuple #[stpV st kv, .bool b]) ∧ KpO w' w.heap.size kv st.keep ∧ stepB (bl s) = if b then some st else none) ∧ Below w.heap.size w w' := by
  obtain ⟨a, ha⟩ : ∃ a, a = spaceI (bl s) := ⟨_, rfl⟩
  have hal : a ≤ s.size := by have := space_le (bl s); rw [bl_size] at this; omega
  obtain ⟨A, hA⟩ : ∃ A, A = s.extract a s.size := ⟨_, rfl⟩
  obtain ⟨B, hB⟩ : ∃ B, B = s.extract 0 a := ⟨_, rfl⟩
  have hbA : bl A = (bl s).drop a := by rw [hA, bl_extract, List.take_of_length_le (by rw [bl_size]; exact Nat.le_refl _)]
  have hbB : bl B = (bl s).take a := by rw [hB, bl_extract, List.drop_zero]
  have hAl : A.size ≤ 100000000 := by rw [← bl_size, hbA, List.length_drop, bl_size]; omega
  have hBl : B.size ≤ 100000000 := by rw [← bl_size, hbB, List.length_take, bl_size]; omega
  have hst : stepB (bl s) = stepK (kindB (bl B)) (bl A) := by unfold stepB; rw [hbA, hbB, ha]
  rw [hst]
  have hk10 := kindB_le (bl B)
  have hkd := fun W hW => kind_any B W hBl hW
  obtain ⟨K, hK⟩ : ∃ K, K = kindB (bl B) := ⟨_, rfl⟩
  rw [← hK] at hkd hk10 ⊢
  obtain rfl : K = 5 := by rw [hK, hbB, ha]; exact hkk
  obtain ⟨r, hr⟩ : ∃ r, r = bl A := ⟨_, rfl⟩
  rw [← hr]
  have hAr : A = blB r := by rw [hr, blB_bl]
  have hrl : r.length ≤ 100000000 := by rw [hr, bl_size]; exact hAl
  have HKd := hide hkd
  have HL := hide hL
  have HAr := hide hAr
  have HrL := hide hrl
  have haw : (0 : Int) ≤ (a : Int) := by omega
  have hix : ∀ W, Calls Tryz.prog 53 #[.string s, .int .u8 32] W fun e w' => e = .returned (.int .i64 (a : Nat)) ∧ w' = W := fun W => by
    have := Tryz.strings_IndexByte s 32 W
    rw [show Lib.indexByte s.data.toList ((32 : Int).toNat.toUInt8) = (a : Int) from by rw [ha]; exact hsd] at this
    exact this
  have HIx := hide hix
  have hAe : s.extract a s.size = A := hA.symm
  have hBe : s.extract 0 a = B := hB.symm
  have hIw : IntKind.i64.wrap (a : Int) = (a : Int) := IntWalk.i64_in _ ⟨by omega, by omega⟩
  clear hst hkd hkk hsd hK hr hrl hL hix hAr ha hA hB hbA hbB hAl
  obtain ⟨w0, hw0⟩ : ∃ w0, w0 = w.alloc (.cells #[.int .u8 0, .string ⟨#[]⟩, .string ⟨#[]⟩, .string ⟨#[]⟩, .int .i64 0, .slice none 0 0] 39) := ⟨_, rfl⟩
  have hb0 : Below w.heap.size w w0 := by rw [hw0]; exact ba1 _ _
  have kres : Bk w0 w.heap.size 39 #[.int .u8 0, .string ⟨#[]⟩, .string ⟨#[]⟩, .string ⟨#[]⟩, .int .i64 0, .slice none 0 0] := by rw [hw0]; exact Bk.new _ _ _
  have HW0 := hide hw0
  have HB0 := hide hb0
  have HRes := hide kres
  have hz0 : w0.heap.size = w.heap.size + 1 := by rw [hw0]; simp
  have HZ0 := hide hz0
  clear hw0 hb0 kres hz0
  go_enter Tryz.func32, Tryz.ntmps32
  go_upto_region 4 with (go_at_call 53; rw [← HW0.out]; refine Calls.mono (HIx.out _) ?_; rintro e w1 ⟨rfl, rfl⟩)
  obtain ⟨w2, hw2⟩ : ∃ w2, w2 = w1.alloc (.cells #[.string A, .bool true] 115) := ⟨_, rfl⟩
  have HW2 := hide hw2
  have hb2 : Below w.heap.size w w2 := by rw [hw2]; exact HB0.out.trans ((ba1 _ _).mono HB0.out.size)
  have kr2 : Bk w2 w1.heap.size 115 #[.string A, .bool true] := by rw [hw2]; exact Bk.new _ _ _
  have ks2 := HRes.out.keep (show Below w1.heap.size w1 w2 by rw [hw2]; exact ba1 _ _)
  have HB2 := hide hb2
  have HK2 := hide kr2
  have HS2 := hide ks2
  clear hw2 hb2 kr2 ks2
  go_upto_region 6 with (go_at_call 55; rw [← HW2.out]; refine Calls.mono (HKd.out _ (HL.out.all HB2.out)) ?_; rintro e w3 ⟨rfl, hb3⟩; have HB3 := hide hb3; clear hb3)
  obtain ⟨W, hW⟩ : ∃ W, W = w3.alloc (.cells #[.int .u8 5, .string ⟨#[]⟩, .string ⟨#[]⟩, .string ⟨#[]⟩, .int .i64 0, .slice none 0 0] 39) := ⟨_, rfl⟩
  rw [← hW]
  have hst : StAt w W w1.heap.size w3.heap.size (r, true) #[.int .u8 5, .string ⟨#[]⟩, .string ⟨#[]⟩, .string ⟨#[]⟩, .int .i64 0, .slice none 0 0] := by
    have h3 := HB3.out.trans (show Below w2.heap.size w3 W by rw [hW]; exact (ba1 _ _).mono HB3.out.size)
    have hkw : Bk W w3.heap.size 39 #[.int .u8 5, .string ⟨#[]⟩, .string ⟨#[]⟩, .string ⟨#[]⟩, .int .i64 0, .slice none 0 0] := by rw [hW]; exact Bk.new _ _ _
    have hl : LrAt W w1.heap.size (r, true) := by unfold LrAt; rw [← HAr.out]; exact HK2.out.keep h3
    exact ⟨hl, hkw, HS2.out.keep h3, HB2.out.trans (h3.mono HB2.out.size), by rw [HZ0.out]; omega, Nat.lt_of_lt_of_le HK2.out.lt HB3.out.size⟩
  obtain ⟨gr, hgr⟩ : ∃ gr, gr = w1.heap.size := ⟨_, rfl⟩
  obtain ⟨gx, hgx⟩ : ∃ gx, gx = w3.heap.size := ⟨_, rfl⟩
  rw [← hgr, ← hgx] at hst
  rw [← hgr, ← hgx]
  clear hW HB3 HB2 HK2 HS2 HW2 HW0 HB0 HRes HKd HIx HZ0 hAe hBe hIw haw hal hgr hgx HAr
  clear hk10
  have HS := hide hst
  obtain ⟨lr0, x0, rs0, hb0, hlt1, hlt2⟩ := hst
  have y0 := x0.cell 0
  have lx := x0.lt
  clear lr0 x0 rs0 hb0
  go_upto_region 24 with (fail)
  have HrL0 := HrL
  obtain ⟨q, hq⟩ : ∃ q, q = (r, true) := ⟨_, rfl⟩
  have hsf := HS.out
  rw [← hq] at hsf
  obtain ⟨S, ok⟩ := q
  have HQ := hide hq
  obtain ⟨lr, xr, rr, hbW, _, _⟩ := hsf
  have lr' : Bk W gr 115 #[.string (blB S), .bool ok] := lr
  obtain ⟨l0, l1⟩ := two_cells lr'
  obtain ⟨E, hE⟩ : ∃ E, E = (blB S).toList.isEmpty := ⟨_, rfl⟩
  have hE' : (blB S).toList.isEmpty = E := hE.symm
  have hES : (E = true) = (S = []) := by rw [hE, isEmpty_str, blB_size, decide_eq_true_eq, List.length_eq_zero_iff]
  have HES := hide hES
  have x0 := xr.cell 0
  have x1 := xr.cell 1
  have x2 := xr.cell 2
  have x3 := xr.cell 3
  have x4 := xr.cell 4
  have x5 := xr.cell 5
  have r0 := rr.cell 0
  have f0 := rr.free 0
  have r1 := rr.cell 1
  have f1 := rr.free 1
  have r2 := rr.cell 2
  have f2 := rr.free 2
  have r3 := rr.cell 3
  have f3 := rr.free 3
  have r4 := rr.cell 4
  have f4 := rr.free 4
  have r5 := rr.cell 5
  have f5 := rr.free 5
  have lw := rr.lt
  have lx := xr.lt
  have HRR := hide rr
  have HBW := hide hbW
  clear hq lr lr' hE hES hbW rr xr
  cases ok with
  | true =>
    go_region
    all_goals go_wp2_with fail
    refine bodyPost_ret (v := .tuple #[stpV ⟨5, ⟨#[]⟩, ⟨#[]⟩, ⟨#[]⟩, 0, []⟩ (.slice none 0 0), .bool E]) (res_stepD (put6_bk HRR.out _ _ _ _ _ _) rfl rfl) rfl ?_
    have he : stepK 5 r = if (true && E) = true then some ⟨5, ⟨#[]⟩, ⟨#[]⟩, ⟨#[]⟩, 0, []⟩ else none := by
      have hq2 := HQ.out
      have hS : S = r := (Prod.mk.inj hq2).1
      have hes := HES.out
      rw [hS] at hes
      show (if r = [] then some _ else none) = if E = true then some _ else none
      by_cases h0 : r = []
      · rw [if_pos h0, if_pos (by rw [hes]; exact h0)]
      · rw [if_neg h0, if_neg (by rw [hes]; exact h0)]
    exact ⟨⟨⟨5, ⟨#[]⟩, ⟨#[]⟩, ⟨#[]⟩, 0, []⟩, (.slice none 0 0), E, rfl, World.ownsRow_nil _ _ _ _, he⟩, Below.drew (put6_below HBW.out (Nat.le_refl _) _ _ _ _ _ _)⟩
  | false =>
    go_region
    all_goals go_wp2_with fail
    refine bodyPost_ret (v := .tuple #[stpV ⟨5, ⟨#[]⟩, ⟨#[]⟩, ⟨#[]⟩, 0, []⟩ (.slice none 0 0), .bool false]) (res_stepD (put6_bk HRR.out _ _ _ _ _ _) rfl rfl) rfl ?_
    have he : stepK 5 r = if (false && E) = true then some ⟨5, ⟨#[]⟩, ⟨#[]⟩, ⟨#[]⟩, 0, []⟩ else none := by
      have hq2 := HQ.out
      cases hq2
    exact ⟨⟨⟨5, ⟨#[]⟩, ⟨#[]⟩, ⟨#[]⟩, 0, []⟩, (.slice none 0 0), false, rfl, World.ownsRow_nil _ _ _ _, he⟩, Below.drew (put6_below HBW.out (Nat.le_refl _) _ _ _ _ _ _)⟩
end Go.Proofs.YtahnnebpadbopaaGreatDoor
/- Walk: front.step, part 4 (printed by gen_fsa.py). -/
namespace Go.Proofs.YtahnnebpadbopaaGreatDoor
open Go.RowKit

set_option maxRecDepth 100000 in
set_option maxHeartbeats 8000000 in
theorem step_1_6 (s : ByteArray) (w : World) (hs : s.size ≤ 100000000) (hL : Lay w) (hkk : kindB ((bl s).take (spaceI (bl s))) = 6) (hsd : Lib.indexByte (bl s) 32 = (spaceI (bl s) : Int)) :
    Calls Tryz.prog 32 #[.string s] w fun e w' => (∃ (st : Stp) (kv : Value) (b : Bool), e = .returned (.tuple #[stpV st kv, .bool b]) ∧ KpO w' w.heap.size kv st.keep ∧ stepB (bl s) = if b then some st else none) ∧ Below w.heap.size w w' := by
  obtain ⟨a, ha⟩ : ∃ a, a = spaceI (bl s) := ⟨_, rfl⟩
  have hal : a ≤ s.size := by have := space_le (bl s); rw [bl_size] at this; omega
  obtain ⟨A, hA⟩ : ∃ A, A = s.extract a s.size := ⟨_, rfl⟩
  obtain ⟨B, hB⟩ : ∃ B, B = s.extract 0 a := ⟨_, rfl⟩
  have hbA : bl A = (bl s).drop a := by rw [hA, bl_extract, List.take_of_length_le (by rw [bl_size]; exact Nat.le_refl _)]
  have hbB : bl B = (bl s).take a := by rw [hB, bl_extract, List.drop_zero]
  have hAl : A.size ≤ 100000000 := by rw [← bl_size, hbA, List.length_drop, bl_size]; omega
  have hBl : B.size ≤ 100000000 := by rw [← bl_size, hbB, List.length_take, bl_size]; omega
  have hst : stepB (bl s) = stepK (kindB (bl B)) (bl A) := by unfold stepB; rw [hbA, hbB, ha]
  rw [hst]
  have hk10 := kindB_le (bl B)
  have hkd := fun W hW => kind_any B W hBl hW
  obtain ⟨K, hK⟩ : ∃ K, K = kindB (bl B) := ⟨_, rfl⟩
  rw [← hK] at hkd hk10 ⊢
  obtain rfl : K = 6 := by rw [hK, hbB, ha]; exact hkk
  obtain ⟨r, hr⟩ : ∃ r, r = bl A := ⟨_, rfl⟩
  rw [← hr]
  have hAr : A = blB r := by rw [hr, blB_bl]
  have hrl : r.length ≤ 100000000 := by rw [hr, bl_size]; exact hAl
  have HKd := hide hkd
  have HL := hide hL
  have HAr := hide hAr
  have HrL := hide hrl
  have haw : (0 : Int) ≤ (a : Int) := by omega
  have hix : ∀ W, Calls Tryz.prog 53 #[.string s, .int .u8 32] W fun e w' => e = .returned (.int .i64 (a : Nat)) ∧ w' = W := fun W => by
    have := Tryz.strings_IndexByte s 32 W
    rw [show Lib.indexByte s.data.toList ((32 : Int).toNat.toUInt8) = (a : Int) from by rw [ha]; exact hsd] at this
    exact this
  have HIx := hide hix
  have hAe : s.extract a s.size = A := hA.symm
  have hBe : s.extract 0 a = B := hB.symm
  have hIw : IntKind.i64.wrap (a : Int) = (a : Int) := IntWalk.i64_in _ ⟨by omega, by omega⟩
  clear hst hkd hkk hsd hK hr hrl hL hix hAr ha hA hB hbA hbB hAl
  obtain ⟨w0, hw0⟩ : ∃ w0, w0 = w.alloc (.cells #[.int .u8 0, .string ⟨#[]⟩, .string ⟨#[]⟩, .string ⟨#[]⟩, .int .i64 0, .slice none 0 0] 39) := ⟨_, rfl⟩
  have hb0 : Below w.heap.size w w0 := by rw [hw0]; exact ba1 _ _
  have kres : Bk w0 w.heap.size 39 #[.int .u8 0, .string ⟨#[]⟩, .string ⟨#[]⟩, .string ⟨#[]⟩, .int .i64 0, .slice none 0 0] := by rw [hw0]; exact Bk.new _ _ _
  have HW0 := hide hw0
  have HB0 := hide hb0
  have HRes := hide kres
  have hz0 : w0.heap.size = w.heap.size + 1 := by rw [hw0]; simp
  have HZ0 := hide hz0
  clear hw0 hb0 kres hz0
  go_enter Tryz.func32, Tryz.ntmps32
  go_upto_region 4 with (go_at_call 53; rw [← HW0.out]; refine Calls.mono (HIx.out _) ?_; rintro e w1 ⟨rfl, rfl⟩)
  obtain ⟨w2, hw2⟩ : ∃ w2, w2 = w1.alloc (.cells #[.string A, .bool true] 115) := ⟨_, rfl⟩
  have HW2 := hide hw2
  have hb2 : Below w.heap.size w w2 := by rw [hw2]; exact HB0.out.trans ((ba1 _ _).mono HB0.out.size)
  have kr2 : Bk w2 w1.heap.size 115 #[.string A, .bool true] := by rw [hw2]; exact Bk.new _ _ _
  have ks2 := HRes.out.keep (show Below w1.heap.size w1 w2 by rw [hw2]; exact ba1 _ _)
  have HB2 := hide hb2
  have HK2 := hide kr2
  have HS2 := hide ks2
  clear hw2 hb2 kr2 ks2
  go_upto_region 6 with (go_at_call 55; rw [← HW2.out]; refine Calls.mono (HKd.out _ (HL.out.all HB2.out)) ?_; rintro e w3 ⟨rfl, hb3⟩; have HB3 := hide hb3; clear hb3)
  obtain ⟨W, hW⟩ : ∃ W, W = w3.alloc (.cells #[.int .u8 6, .string ⟨#[]⟩, .string ⟨#[]⟩, .string ⟨#[]⟩, .int .i64 0, .slice none 0 0] 39) := ⟨_, rfl⟩
  rw [← hW]
  have hst : StAt w W w1.heap.size w3.heap.size (r, true) #[.int .u8 6, .string ⟨#[]⟩, .string ⟨#[]⟩, .string ⟨#[]⟩, .int .i64 0, .slice none 0 0] := by
    have h3 := HB3.out.trans (show Below w2.heap.size w3 W by rw [hW]; exact (ba1 _ _).mono HB3.out.size)
    have hkw : Bk W w3.heap.size 39 #[.int .u8 6, .string ⟨#[]⟩, .string ⟨#[]⟩, .string ⟨#[]⟩, .int .i64 0, .slice none 0 0] := by rw [hW]; exact Bk.new _ _ _
    have hl : LrAt W w1.heap.size (r, true) := by unfold LrAt; rw [← HAr.out]; exact HK2.out.keep h3
    exact ⟨hl, hkw, HS2.out.keep h3, HB2.out.trans (h3.mono HB2.out.size), by rw [HZ0.out]; omega, Nat.lt_of_lt_of_le HK2.out.lt HB3.out.size⟩
  obtain ⟨gr, hgr⟩ : ∃ gr, gr = w1.heap.size := ⟨_, rfl⟩
  obtain ⟨gx, hgx⟩ : ∃ gx, gx = w3.heap.size := ⟨_, rfl⟩
  rw [← hgr, ← hgx] at hst
  rw [← hgr, ← hgx]
  clear hW HB3 HB2 HK2 HS2 HW2 HW0 HB0 HRes HKd HIx HZ0 hAe hBe hIw haw hal hgr hgx HAr
  clear hk10
  have HS := hide hst
  obtain ⟨lr0, x0, rs0, hb0, hlt1, hlt2⟩ := hst
  have y0 := x0.cell 0
  have lx := x0.lt
  clear lr0 x0 rs0 hb0
  obtain ⟨T1, hT1⟩ : ∃ T, T = rdText (r, true) := ⟨_, rfl⟩
  have cT1 := fun W (h : LrAt W gr (r, true)) => rtext_any gr (r, true) W h HrL.out
  rw [← hT1] at cT1
  obtain ⟨VT1, hVT1⟩ : ∃ V, V = blB T1.1 := ⟨_, rfl⟩
  rw [← hVT1] at cT1
  have hlen1 : T1.2.1.length ≤ 100000000 := by rw [hT1]; exact Nat.le_trans (text_len _) HrL.out
  have HVT1 := hide hVT1
  clear hVT1
  have HCT1 := hide cT1
  have HT1 := hide hT1
  clear cT1 hT1
  go_upto_region 15 with (go_at_call 56; refine Calls.mono (HCT1.out _ HS.out.1) ?_; rintro e w5 ⟨rfl, hl, hf⟩; have HS5 := hide (StAt.call HS.out hf hl); have x5 := HS5.out.2.1; have fz := x5.free 1; have cz := x5.cell 1; have lz := x5.lt; clear hl hf x5)
  obtain ⟨W0, hW0⟩ : ∃ W', W' = w5.setCell ⟨gx, 1, none⟩ (.string VT1) := ⟨_, rfl⟩
  rw [← hW0]
  have hs0 := StAt.set HS5.out 1 (.string VT1)
  rw [← hW0] at hs0
  have HS := hide hs0
  clear hW0 hs0 fz cz lz HS5
  obtain ⟨T2, hT2⟩ : ∃ T, T = rdText T1.2 := ⟨_, rfl⟩
  have cT2 := fun W (h : LrAt W gr T1.2) => rtext_any gr T1.2 W h hlen1
  rw [← hT2] at cT2
  obtain ⟨VT2, hVT2⟩ : ∃ V, V = blB T2.1 := ⟨_, rfl⟩
  rw [← hVT2] at cT2
  have HVT2 := hide hVT2
  clear hVT2
  have HCT2 := hide cT2
  have HT2 := hide hT2
  clear cT2 hT2
  go_upto_region 24 with (go_at_call 56; refine Calls.mono (HCT2.out _ HS.out.1) ?_; rintro e w5 ⟨rfl, hl, hf⟩; have HS5 := hide (StAt.call HS.out hf hl); have x5 := HS5.out.2.1; have fz := x5.free 2; have cz := x5.cell 2; have lz := x5.lt; clear hl hf x5)
  obtain ⟨W1, hW1⟩ : ∃ W', W' = w5.setCell ⟨gx, 2, none⟩ (.string VT2) := ⟨_, rfl⟩
  rw [← hW1]
  have hs1 := StAt.set HS5.out 2 (.string VT2)
  rw [← hW1] at hs1
  have HS := hide hs1
  clear hW1 hs1 fz cz lz HS5
  obtain ⟨q, hq⟩ : ∃ q, q = T2.2 := ⟨_, rfl⟩
  have hsf := HS.out
  rw [← hq] at hsf
  obtain ⟨S, ok⟩ := q
  have HQ := hide hq
  obtain ⟨lr, xr, rr, hbW, _, _⟩ := hsf
  have lr' : Bk W1 gr 115 #[.string (blB S), .bool ok] := lr
  obtain ⟨l0, l1⟩ := two_cells lr'
  obtain ⟨E, hE⟩ : ∃ E, E = (blB S).toList.isEmpty := ⟨_, rfl⟩
  have hE' : (blB S).toList.isEmpty = E := hE.symm
  have hES : (E = true) = (S = []) := by rw [hE, isEmpty_str, blB_size, decide_eq_true_eq, List.length_eq_zero_iff]
  have HES := hide hES
  have x0 := xr.cell 0
  have x1 := xr.cell 1
  have x2 := xr.cell 2
  have x3 := xr.cell 3
  have x4 := xr.cell 4
  have x5 := xr.cell 5
  have r0 := rr.cell 0
  have f0 := rr.free 0
  have r1 := rr.cell 1
  have f1 := rr.free 1
  have r2 := rr.cell 2
  have f2 := rr.free 2
  have r3 := rr.cell 3
  have f3 := rr.free 3
  have r4 := rr.cell 4
  have f4 := rr.free 4
  have r5 := rr.cell 5
  have f5 := rr.free 5
  have lw := rr.lt
  have lx := xr.lt
  have HRR := hide rr
  have HBW := hide hbW
  clear hq lr lr' hE hES hbW rr xr
  cases ok with
  | true =>
    go_region
    all_goals go_wp2_with fail
    refine bodyPost_ret (v := .tuple #[stpV ⟨6, VT1, VT2, ⟨#[]⟩, 0, []⟩ (.slice none 0 0), .bool E]) (res_stepD (put6_bk HRR.out _ _ _ _ _ _) rfl rfl) rfl ?_
    have he : stepK 6 r = if (true && E) = true then some ⟨6, VT1, VT2, ⟨#[]⟩, 0, []⟩ else none := by
      rw [show stepK 6 r = (if (rdText (rdText (r, true)).2).2 = (([] : List UInt8), true) then some ⟨6, blB (rdText (r, true)).1, blB (rdText (rdText (r, true)).2).1, ⟨#[]⟩, 0, []⟩ else none) from rfl, ← HT1.out, ← HT2.out, ← HQ.out, ← HVT1.out, ← HVT2.out]
      exact if_done true HES.out _
    exact ⟨⟨⟨6, VT1, VT2, ⟨#[]⟩, 0, []⟩, (.slice none 0 0), E, rfl, World.ownsRow_nil _ _ _ _, he⟩, Below.drew (put6_below HBW.out (Nat.le_refl _) _ _ _ _ _ _)⟩
  | false =>
    go_region
    all_goals go_wp2_with fail
    refine bodyPost_ret (v := .tuple #[stpV ⟨6, VT1, VT2, ⟨#[]⟩, 0, []⟩ (.slice none 0 0), .bool false]) (res_stepD (put6_bk HRR.out _ _ _ _ _ _) rfl rfl) rfl ?_
    have he : stepK 6 r = if (false && E) = true then some ⟨6, VT1, VT2, ⟨#[]⟩, 0, []⟩ else none := by
      rw [show stepK 6 r = (if (rdText (rdText (r, true)).2).2 = (([] : List UInt8), true) then some ⟨6, blB (rdText (r, true)).1, blB (rdText (rdText (r, true)).2).1, ⟨#[]⟩, 0, []⟩ else none) from rfl, ← HT1.out, ← HT2.out, ← HQ.out, ← HVT1.out, ← HVT2.out]
      exact if_done false HES.out _
    exact ⟨⟨⟨6, VT1, VT2, ⟨#[]⟩, 0, []⟩, (.slice none 0 0), false, rfl, World.ownsRow_nil _ _ _ _, he⟩, Below.drew (put6_below HBW.out (Nat.le_refl _) _ _ _ _ _ _)⟩
set_option maxRecDepth 100000 in
set_option maxHeartbeats 8000000 in
theorem step_1_7 (s : ByteArray) (w : World) (hs : s.size ≤ 100000000) (hL : Lay w) (hkk : kindB ((bl s).take (spaceI (bl s))) = 7) (hsd : Lib.indexByte (bl s) 32 = (spaceI (bl s) : Int)) :
    Calls Tryz.prog 32 #[.string s] w fun e w' => (∃ (st : Stp) (kv : Value) (b : Bool), e = .returned (.tuple #[stpV st kv, .bool b]) ∧ KpO w' w.heap.size kv st.keep ∧ stepB (bl s) = if b then some st else none) ∧ Below w.heap.size w w' := by
  obtain ⟨a, ha⟩ : ∃ a, a = spaceI (bl s) := ⟨_, rfl⟩
  have hal : a ≤ s.size := by have := space_le (bl s); rw [bl_size] at this; omega
  obtain ⟨A, hA⟩ : ∃ A, A = s.extract a s.size := ⟨_, rfl⟩
  obtain ⟨B, hB⟩ : ∃ B, B = s.extract 0 a := ⟨_, rfl⟩
  have hbA : bl A = (bl s).drop a := by rw [hA, bl_extract, List.take_of_length_le (by rw [bl_size]; exact Nat.le_refl _)]
  have hbB : bl B = (bl s).take a := by rw [hB, bl_extract, List.drop_zero]
  have hAl : A.size ≤ 100000000 := by rw [← bl_size, hbA, List.length_drop, bl_size]; omega
  have hBl : B.size ≤ 100000000 := by rw [← bl_size, hbB, List.length_take, bl_size]; omega
  have hst : stepB (bl s) = stepK (kindB (bl B)) (bl A) := by unfold stepB; rw [hbA, hbB, ha]
  rw [hst]
  have hk10 := kindB_le (bl B)
  have hkd := fun W hW => kind_any B W hBl hW
  obtain ⟨K, hK⟩ : ∃ K, K = kindB (bl B) := ⟨_, rfl⟩
  rw [← hK] at hkd hk10 ⊢
  obtain rfl : K = 7 := by rw [hK, hbB, ha]; exact hkk
  obtain ⟨r, hr⟩ : ∃ r, r = bl A := ⟨_, rfl⟩
  rw [← hr]
  have hAr : A = blB r := by rw [hr, blB_bl]
  have hrl : r.length ≤ 100000000 := by rw [hr, bl_size]; exact hAl
  have HKd := hide hkd
  have HL := hide hL
  have HAr := hide hAr
  have HrL := hide hrl
  have haw : (0 : Int) ≤ (a : Int) := by omega
  have hix : ∀ W, Calls Tryz.prog 53 #[.string s, .int .u8 32] W fun e w' => e = .returned (.int .i64 (a : Nat)) ∧ w' = W := fun W => by
    have := Tryz.strings_IndexByte s 32 W
    rw [show Lib.indexByte s.data.toList ((32 : Int).toNat.toUInt8) = (a : Int) from by rw [ha]; exact hsd] at this
    exact this
  have HIx := hide hix
  have hAe : s.extract a s.size = A := hA.symm
  have hBe : s.extract 0 a = B := hB.symm
  have hIw : IntKind.i64.wrap (a : Int) = (a : Int) := IntWalk.i64_in _ ⟨by omega, by omega⟩
  clear hst hkd hkk hsd hK hr hrl hL hix hAr ha hA hB hbA hbB hAl
  obtain ⟨w0, hw0⟩ : ∃ w0, w0 = w.alloc (.cells #[.int .u8 0, .string ⟨#[]⟩, .string ⟨#[]⟩, .string ⟨#[]⟩, .int .i64 0, .slice none 0 0] 39) := ⟨_, rfl⟩
  have hb0 : Below w.heap.size w w0 := by rw [hw0]; exact ba1 _ _
  have kres : Bk w0 w.heap.size 39 #[.int .u8 0, .string ⟨#[]⟩, .string ⟨#[]⟩, .string ⟨#[]⟩, .int .i64 0, .slice none 0 0] := by rw [hw0]; exact Bk.new _ _ _
  have HW0 := hide hw0
  have HB0 := hide hb0
  have HRes := hide kres
  have hz0 : w0.heap.size = w.heap.size + 1 := by rw [hw0]; simp
  have HZ0 := hide hz0
  clear hw0 hb0 kres hz0
  go_enter Tryz.func32, Tryz.ntmps32
  go_upto_region 4 with (go_at_call 53; rw [← HW0.out]; refine Calls.mono (HIx.out _) ?_; rintro e w1 ⟨rfl, rfl⟩)
  obtain ⟨w2, hw2⟩ : ∃ w2, w2 = w1.alloc (.cells #[.string A, .bool true] 115) := ⟨_, rfl⟩
  have HW2 := hide hw2
  have hb2 : Below w.heap.size w w2 := by rw [hw2]; exact HB0.out.trans ((ba1 _ _).mono HB0.out.size)
  have kr2 : Bk w2 w1.heap.size 115 #[.string A, .bool true] := by rw [hw2]; exact Bk.new _ _ _
  have ks2 := HRes.out.keep (show Below w1.heap.size w1 w2 by rw [hw2]; exact ba1 _ _)
  have HB2 := hide hb2
  have HK2 := hide kr2
  have HS2 := hide ks2
  clear hw2 hb2 kr2 ks2
  go_upto_region 6 with (go_at_call 55; rw [← HW2.out]; refine Calls.mono (HKd.out _ (HL.out.all HB2.out)) ?_; rintro e w3 ⟨rfl, hb3⟩; have HB3 := hide hb3; clear hb3)
  obtain ⟨W, hW⟩ : ∃ W, W = w3.alloc (.cells #[.int .u8 7, .string ⟨#[]⟩, .string ⟨#[]⟩, .string ⟨#[]⟩, .int .i64 0, .slice none 0 0] 39) := ⟨_, rfl⟩
  rw [← hW]
  have hst : StAt w W w1.heap.size w3.heap.size (r, true) #[.int .u8 7, .string ⟨#[]⟩, .string ⟨#[]⟩, .string ⟨#[]⟩, .int .i64 0, .slice none 0 0] := by
    have h3 := HB3.out.trans (show Below w2.heap.size w3 W by rw [hW]; exact (ba1 _ _).mono HB3.out.size)
    have hkw : Bk W w3.heap.size 39 #[.int .u8 7, .string ⟨#[]⟩, .string ⟨#[]⟩, .string ⟨#[]⟩, .int .i64 0, .slice none 0 0] := by rw [hW]; exact Bk.new _ _ _
    have hl : LrAt W w1.heap.size (r, true) := by unfold LrAt; rw [← HAr.out]; exact HK2.out.keep h3
    exact ⟨hl, hkw, HS2.out.keep h3, HB2.out.trans (h3.mono HB2.out.size), by rw [HZ0.out]; omega, Nat.lt_of_lt_of_le HK2.out.lt HB3.out.size⟩
  obtain ⟨gr, hgr⟩ : ∃ gr, gr = w1.heap.size := ⟨_, rfl⟩
  obtain ⟨gx, hgx⟩ : ∃ gx, gx = w3.heap.size := ⟨_, rfl⟩
  rw [← hgr, ← hgx] at hst
  rw [← hgr, ← hgx]
  clear hW HB3 HB2 HK2 HS2 HW2 HW0 HB0 HRes HKd HIx HZ0 hAe hBe hIw haw hal hgr hgx HAr
  clear hk10
  have HS := hide hst
  obtain ⟨lr0, x0, rs0, hb0, hlt1, hlt2⟩ := hst
  have y0 := x0.cell 0
  have lx := x0.lt
  clear lr0 x0 rs0 hb0
  go_upto_region 24 with (fail)
  have HrL0 := HrL
  obtain ⟨q, hq⟩ : ∃ q, q = (r, true) := ⟨_, rfl⟩
  have hsf := HS.out
  rw [← hq] at hsf
  obtain ⟨S, ok⟩ := q
  have HQ := hide hq
  obtain ⟨lr, xr, rr, hbW, _, _⟩ := hsf
  have lr' : Bk W gr 115 #[.string (blB S), .bool ok] := lr
  obtain ⟨l0, l1⟩ := two_cells lr'
  obtain ⟨E, hE⟩ : ∃ E, E = (blB S).toList.isEmpty := ⟨_, rfl⟩
  have hE' : (blB S).toList.isEmpty = E := hE.symm
  have hES : (E = true) = (S = []) := by rw [hE, isEmpty_str, blB_size, decide_eq_true_eq, List.length_eq_zero_iff]
  have HES := hide hES
  have x0 := xr.cell 0
  have x1 := xr.cell 1
  have x2 := xr.cell 2
  have x3 := xr.cell 3
  have x4 := xr.cell 4
  have x5 := xr.cell 5
  have r0 := rr.cell 0
  have f0 := rr.free 0
  have r1 := rr.cell 1
  have f1 := rr.free 1
  have r2 := rr.cell 2
  have f2 := rr.free 2
  have r3 := rr.cell 3
  have f3 := rr.free 3
  have r4 := rr.cell 4
  have f4 := rr.free 4
  have r5 := rr.cell 5
  have f5 := rr.free 5
  have lw := rr.lt
  have lx := xr.lt
  have HRR := hide rr
  have HBW := hide hbW
  clear hq lr lr' hE hES hbW rr xr
  cases ok with
  | true =>
    go_region
    all_goals go_wp2_with fail
    refine bodyPost_ret (v := .tuple #[stpV ⟨7, ⟨#[]⟩, ⟨#[]⟩, ⟨#[]⟩, 0, []⟩ (.slice none 0 0), .bool E]) (res_stepD (put6_bk HRR.out _ _ _ _ _ _) rfl rfl) rfl ?_
    have he : stepK 7 r = if (true && E) = true then some ⟨7, ⟨#[]⟩, ⟨#[]⟩, ⟨#[]⟩, 0, []⟩ else none := by
      have hq2 := HQ.out
      have hS : S = r := (Prod.mk.inj hq2).1
      have hes := HES.out
      rw [hS] at hes
      show (if r = [] then some _ else none) = if E = true then some _ else none
      by_cases h0 : r = []
      · rw [if_pos h0, if_pos (by rw [hes]; exact h0)]
      · rw [if_neg h0, if_neg (by rw [hes]; exact h0)]
    exact ⟨⟨⟨7, ⟨#[]⟩, ⟨#[]⟩, ⟨#[]⟩, 0, []⟩, (.slice none 0 0), E, rfl, World.ownsRow_nil _ _ _ _, he⟩, Below.drew (put6_below HBW.out (Nat.le_refl _) _ _ _ _ _ _)⟩
  | false =>
    go_region
    all_goals go_wp2_with fail
    refine bodyPost_ret (v := .tuple #[stpV ⟨7, ⟨#[]⟩, ⟨#[]⟩, ⟨#[]⟩, 0, []⟩ (.slice none 0 0), .bool false]) (res_stepD (put6_bk HRR.out _ _ _ _ _ _) rfl rfl) rfl ?_
    have he : stepK 7 r = if (false && E) = true then some ⟨7, ⟨#[]⟩, ⟨#[]⟩, ⟨#[]⟩, 0, []⟩ else none := by
      have hq2 := HQ.out
      cases hq2
    exact ⟨⟨⟨7, ⟨#[]⟩, ⟨#[]⟩, ⟨#[]⟩, 0, []⟩, (.slice none 0 0), false, rfl, World.ownsRow_nil _ _ _ _, he⟩, Below.drew (put6_below HBW.out (Nat.le_refl _) _ _ _ _ _ _)⟩
set_option maxRecDepth 100000 in
set_option maxHeartbeats 8000000 in
theorem step_1_8 (s : ByteArray) (w : World) (hs : s.size ≤ 100000000) (hL : Lay w) (hkk : kindB ((bl s).take (spaceI (bl s))) = 8) (hsd : Lib.indexByte (bl s) 32 = (spaceI (bl s) : Int)) :
    Calls Tryz.prog 32 #[.string s] w fun e w' => (∃ (st : Stp) (kv : Value) (b : Bool), e = .returned (.tuple #[stpV st kv, .bool b]) ∧ KpO w' w.heap.size kv st.keep ∧ stepB (bl s) = if b then some st else none) ∧ Below w.heap.size w w' := by
  obtain ⟨a, ha⟩ : ∃ a, a = spaceI (bl s) := ⟨_, rfl⟩
  have hal : a ≤ s.size := by have := space_le (bl s); rw [bl_size] at this; omega
  obtain ⟨A, hA⟩ : ∃ A, A = s.extract a s.size := ⟨_, rfl⟩
  obtain ⟨B, hB⟩ : ∃ B, B = s.extract 0 a := ⟨_, rfl⟩
  have hbA : bl A = (bl s).drop a := by rw [hA, bl_extract, List.take_of_length_le (by rw [bl_size]; exact Nat.le_refl _)]
  have hbB : bl B = (bl s).take a := by rw [hB, bl_extract, List.drop_zero]
  have hAl : A.size ≤ 100000000 := by rw [← bl_size, hbA, List.length_drop, bl_size]; omega
  have hBl : B.size ≤ 100000000 := by rw [← bl_size, hbB, List.length_take, bl_size]; omega
  have hst : stepB (bl s) = stepK (kindB (bl B)) (bl A) := by unfold stepB; rw [hbA, hbB, ha]
  rw [hst]
  have hk10 := kindB_le (bl B)
  have hkd := fun W hW => kind_any B W hBl hW
  obtain ⟨K, hK⟩ : ∃ K, K = kindB (bl B) := ⟨_, rfl⟩
  rw [← hK] at hkd hk10 ⊢
  obtain rfl : K = 8 := by rw [hK, hbB, ha]; exact hkk
  obtain ⟨r, hr⟩ : ∃ r, r = bl A := ⟨_, rfl⟩
  rw [← hr]
  have hAr : A = blB r := by rw [hr, blB_bl]
  have hrl : r.length ≤ 100000000 := by rw [hr, bl_size]; exact hAl
  have HKd := hide hkd
  have HL := hide hL
  have HAr := hide hAr
  have HrL := hide hrl
  have haw : (0 : Int) ≤ (a : Int) := by omega
  have hix : ∀ W, Calls Tryz.prog 53 #[.string s, .int .u8 32] W fun e w' => e = .returned (.int .i64 (a : Nat)) ∧ w' = W := fun W => by
    have := Tryz.strings_IndexByte s 32 W
    rw [show Lib.indexByte s.data.toList ((32 : Int).toNat.toUInt8) = (a : Int) from by rw [ha]; exact hsd] at this
    exact this
  have HIx := hide hix
  have hAe : s.extract a s.size = A := hA.symm
  have hBe : s.extract 0 a = B := hB.symm
  have hIw : IntKind.i64.wrap (a : Int) = (a : Int) := IntWalk.i64_in _ ⟨by omega, by omega⟩
  clear hst hkd hkk hsd hK hr hrl hL hix hAr ha hA hB hbA hbB hAl
  obtain ⟨w0, hw0⟩ : ∃ w0, w0 = w.alloc (.cells #[.int .u8 0, .string ⟨#[]⟩, .string ⟨#[]⟩, .string ⟨#[]⟩, .int .i64 0, .slice none 0 0] 39) := ⟨_, rfl⟩
  have hb0 : Below w.heap.size w w0 := by rw [hw0]; exact ba1 _ _
  have kres : Bk w0 w.heap.size 39 #[.int .u8 0, .string ⟨#[]⟩, .string ⟨#[]⟩, .string ⟨#[]⟩, .int .i64 0, .slice none 0 0] := by rw [hw0]; exact Bk.new _ _ _
  have HW0 := hide hw0
  have HB0 := hide hb0
  have HRes := hide kres
  have hz0 : w0.heap.size = w.heap.size + 1 := by rw [hw0]; simp
  have HZ0 := hide hz0
  clear hw0 hb0 kres hz0
  go_enter Tryz.func32, Tryz.ntmps32
  go_upto_region 4 with (go_at_call 53; rw [← HW0.out]; refine Calls.mono (HIx.out _) ?_; rintro e w1 ⟨rfl, rfl⟩)
  obtain ⟨w2, hw2⟩ : ∃ w2, w2 = w1.alloc (.cells #[.string A, .bool true] 115) := ⟨_, rfl⟩
  have HW2 := hide hw2
  have hb2 : Below w.heap.size w w2 := by rw [hw2]; exact HB0.out.trans ((ba1 _ _).mono HB0.out.size)
  have kr2 : Bk w2 w1.heap.size 115 #[.string A, .bool true] := by rw [hw2]; exact Bk.new _ _ _
  have ks2 := HRes.out.keep (show Below w1.heap.size w1 w2 by rw [hw2]; exact ba1 _ _)
  have HB2 := hide hb2
  have HK2 := hide kr2
  have HS2 := hide ks2
  clear hw2 hb2 kr2 ks2
  go_upto_region 6 with (go_at_call 55; rw [← HW2.out]; refine Calls.mono (HKd.out _ (HL.out.all HB2.out)) ?_; rintro e w3 ⟨rfl, hb3⟩; have HB3 := hide hb3; clear hb3)
  obtain ⟨W, hW⟩ : ∃ W, W = w3.alloc (.cells #[.int .u8 8, .string ⟨#[]⟩, .string ⟨#[]⟩, .string ⟨#[]⟩, .int .i64 0, .slice none 0 0] 39) := ⟨_, rfl⟩
  rw [← hW]
  have hst : StAt w W w1.heap.size w3.heap.size (r, true) #[.int .u8 8, .string ⟨#[]⟩, .string ⟨#[]⟩, .string ⟨#[]⟩, .int .i64 0, .slice none 0 0] := by
    have h3 := HB3.out.trans (show Below w2.heap.size w3 W by rw [hW]; exact (ba1 _ _).mono HB3.out.size)
    have hkw : Bk W w3.heap.size 39 #[.int .u8 8, .string ⟨#[]⟩, .string ⟨#[]⟩, .string ⟨#[]⟩, .int .i64 0, .slice none 0 0] := by rw [hW]; exact Bk.new _ _ _
    have hl : LrAt W w1.heap.size (r, true) := by unfold LrAt; rw [← HAr.out]; exact HK2.out.keep h3
    exact ⟨hl, hkw, HS2.out.keep h3, HB2.out.trans (h3.mono HB2.out.size), by rw [HZ0.out]; omega, Nat.lt_of_lt_of_le HK2.out.lt HB3.out.size⟩
  obtain ⟨gr, hgr⟩ : ∃ gr, gr = w1.heap.size := ⟨_, rfl⟩
  obtain ⟨gx, hgx⟩ : ∃ gx, gx = w3.heap.size := ⟨_, rfl⟩
  rw [← hgr, ← hgx] at hst
  rw [← hgr, ← hgx]
  clear hW HB3 HB2 HK2 HS2 HW2 HW0 HB0 HRes HKd HIx HZ0 hAe hBe hIw haw hal hgr hgx HAr
  clear hk10
  have HS := hide hst
  obtain ⟨lr0, x0, rs0, hb0, hlt1, hlt2⟩ := hst
  have y0 := x0.cell 0
  have lx := x0.lt
  clear lr0 x0 rs0 hb0
  obtain ⟨T1, hT1⟩ : ∃ T, T = rdNum (r, true) := ⟨_, rfl⟩
  have cT1 := fun W (h : LrAt W gr (r, true)) (hL : Lay W) (hg : 14 ≤ gr) => rnum_any gr (r, true) W h HrL.out hL hg
  rw [← hT1] at cT1
  have HCT1 := hide cT1
  have HT1 := hide hT1
  clear cT1 hT1
  have HGr := hide (show 14 ≤ gr from Nat.le_trans HL.out.size (Nat.le_of_lt hlt1))
  go_upto_region 24 with (go_at_call 57; refine Calls.mono (HCT1.out _ HS.out.1 (HL.out.all HS.out.2.2.2.1) HGr.out) ?_; rintro e w5 ⟨⟨v5, rfl, hv5⟩, hl, hf⟩; have HV5 := hide hv5; have HS5 := hide (StAt.call HS.out hf hl); have x5 := HS5.out.2.1; have fz := x5.free 4; have cz := x5.cell 4; have lz := x5.lt; clear hl hf x5 hv5)
  obtain ⟨W0, hW0⟩ : ∃ W', W' = w5.setCell ⟨gx, 4, none⟩ (.int .i64 v5) := ⟨_, rfl⟩
  rw [← hW0]
  have hs0 := StAt.set HS5.out 4 (.int .i64 v5)
  rw [← hW0] at hs0
  have HS := hide hs0
  clear hW0 hs0 fz cz lz HS5
  obtain ⟨q, hq⟩ : ∃ q, q = (([] : List UInt8), T1.2) := ⟨_, rfl⟩
  have hsf := HS.out
  rw [← hq] at hsf
  obtain ⟨S, ok⟩ := q
  have HQ := hide hq
  obtain ⟨lr, xr, rr, hbW, _, _⟩ := hsf
  have lr' : Bk W0 gr 115 #[.string (blB S), .bool ok] := lr
  obtain ⟨l0, l1⟩ := two_cells lr'
  obtain ⟨E, hE⟩ : ∃ E, E = (blB S).toList.isEmpty := ⟨_, rfl⟩
  have hE' : (blB S).toList.isEmpty = E := hE.symm
  have hES : (E = true) = (S = []) := by rw [hE, isEmpty_str, blB_size, decide_eq_true_eq, List.length_eq_zero_iff]
  have HES := hide hES
  have x0 := xr.cell 0
  have x1 := xr.cell 1
  have x2 := xr.cell 2
  have x3 := xr.cell 3
  have x4 := xr.cell 4
  have x5 := xr.cell 5
  have r0 := rr.cell 0
  have f0 := rr.free 0
  have r1 := rr.cell 1
  have f1 := rr.free 1
  have r2 := rr.cell 2
  have f2 := rr.free 2
  have r3 := rr.cell 3
  have f3 := rr.free 3
  have r4 := rr.cell 4
  have f4 := rr.free 4
  have r5 := rr.cell 5
  have f5 := rr.free 5
  have lw := rr.lt
  have lx := xr.lt
  have HRR := hide rr
  have HBW := hide hbW
  clear hq lr lr' hE hES hbW rr xr
  cases ok with
  | true =>
    go_region
    all_goals go_wp2_with fail
    refine bodyPost_ret (v := .tuple #[stpV ⟨8, ⟨#[]⟩, ⟨#[]⟩, ⟨#[]⟩, v5, []⟩ (.slice none 0 0), .bool E]) (res_stepD (put6_bk HRR.out _ _ _ _ _ _) rfl rfl) rfl ?_
    have he : stepK 8 r = if (true && E) = true then some ⟨8, ⟨#[]⟩, ⟨#[]⟩, ⟨#[]⟩, v5, []⟩ else none := by
      have hq2 := Prod.mk.inj HQ.out
      have hE2 : E = true := by rw [HES.out]; exact hq2.1
      rw [show stepK 8 r = (if (rdNum (r, true)).2 = true then some ⟨8, ⟨#[]⟩, ⟨#[]⟩, ⟨#[]⟩, (rdNum (r, true)).1, []⟩ else none) from rfl, ← HT1.out, ← hq2.2, hE2]
      rw [HV5.out hq2.2.symm]; rfl
    exact ⟨⟨⟨8, ⟨#[]⟩, ⟨#[]⟩, ⟨#[]⟩, v5, []⟩, (.slice none 0 0), E, rfl, World.ownsRow_nil _ _ _ _, he⟩, Below.drew (put6_below HBW.out (Nat.le_refl _) _ _ _ _ _ _)⟩
  | false =>
    go_region
    all_goals go_wp2_with fail
    refine bodyPost_ret (v := .tuple #[stpV ⟨8, ⟨#[]⟩, ⟨#[]⟩, ⟨#[]⟩, v5, []⟩ (.slice none 0 0), .bool false]) (res_stepD (put6_bk HRR.out _ _ _ _ _ _) rfl rfl) rfl ?_
    have he : stepK 8 r = if (false && E) = true then some ⟨8, ⟨#[]⟩, ⟨#[]⟩, ⟨#[]⟩, v5, []⟩ else none := by
      have hq2 := Prod.mk.inj HQ.out
      have hE2 : E = true := by rw [HES.out]; exact hq2.1
      rw [show stepK 8 r = (if (rdNum (r, true)).2 = true then some ⟨8, ⟨#[]⟩, ⟨#[]⟩, ⟨#[]⟩, (rdNum (r, true)).1, []⟩ else none) from rfl, ← HT1.out, ← hq2.2, hE2]
      rfl
    exact ⟨⟨⟨8, ⟨#[]⟩, ⟨#[]⟩, ⟨#[]⟩, v5, []⟩, (.slice none 0 0), false, rfl, World.ownsRow_nil _ _ _ _, he⟩, Below.drew (put6_below HBW.out (Nat.le_refl _) _ _ _ _ _ _)⟩
set_option maxRecDepth 100000 in
set_option maxHeartbeats 8000000 in
theorem step_1_9 (s : ByteArray) (w : World) (hs : s.size ≤ 100000000) (hL : Lay w) (hkk : kindB ((bl s).take (spaceI (bl s))) = 9) (hsd : Lib.indexByte (bl s) 32 = (spaceI (bl s) : Int)) :
    Calls Tryz.prog 32 #[.string s] w fun e w' => (∃ (st : Stp) (kv : Value) (b : Bool), e = .returned (.tuple #[stpV st kv, .bool b]) ∧ KpO w' w.heap.size kv st.keep ∧ stepB (bl s) = if b then some st else none) ∧ Below w.heap.size w w' := by
  obtain ⟨a, ha⟩ : ∃ a, a = spaceI (bl s) := ⟨_, rfl⟩
  have hal : a ≤ s.size := by have := space_le (bl s); rw [bl_size] at this; omega
  obtain ⟨A, hA⟩ : ∃ A, A = s.extract a s.size := ⟨_, rfl⟩
  obtain ⟨B, hB⟩ : ∃ B, B = s.extract 0 a := ⟨_, rfl⟩
  have hbA : bl A = (bl s).drop a := by rw [hA, bl_extract, List.take_of_length_le (by rw [bl_size]; exact Nat.le_refl _)]
  have hbB : bl B = (bl s).take a := by rw [hB, bl_extract, List.drop_zero]
  have hAl : A.size ≤ 100000000 := by rw [← bl_size, hbA, List.length_drop, bl_size]; omega
  have hBl : B.size ≤ 100000000 := by rw [← bl_size, hbB, List.length_take, bl_size]; omega
  have hst : stepB (bl s) = stepK (kindB (bl B)) (bl A) := by unfold stepB; rw [hbA, hbB, ha]
  rw [hst]
  have hk10 := kindB_le (bl B)
  have hkd := fun W hW => kind_any B W hBl hW
  obtain ⟨K, hK⟩ : ∃ K, K = kindB (bl B) := ⟨_, rfl⟩
  rw [← hK] at hkd hk10 ⊢
  obtain rfl : K = 9 := by rw [hK, hbB, ha]; exact hkk
  obtain ⟨r, hr⟩ : ∃ r, r = bl A := ⟨_, rfl⟩
  rw [← hr]
  have hAr : A = blB r := by rw [hr, blB_bl]
  have hrl : r.length ≤ 100000000 := by rw [hr, bl_size]; exact hAl
  have HKd := hide hkd
  have HL := hide hL
  have HAr := hide hAr
  have HrL := hide hrl
  have haw : (0 : Int) ≤ (a : Int) := by omega
  have hix : ∀ W, Calls Tryz.prog 53 #[.string s, .int .u8 32] W fun e w' => e = .returned (.int .i64 (a : Nat)) ∧ w' = W := fun W => by
    have := Tryz.strings_IndexByte s 32 W
    rw [show Lib.indexByte s.data.toList ((32 : Int).toNat.toUInt8) = (a : Int) from by rw [ha]; exact hsd] at this
    exact this
  have HIx := hide hix
  have hAe : s.extract a s.size = A := hA.symm
  have hBe : s.extract 0 a = B := hB.symm
  have hIw : IntKind.i64.wrap (a : Int) = (a : Int) := IntWalk.i64_in _ ⟨by omega, by omega⟩
  clear hst hkd hkk hsd hK hr hrl hL hix hAr ha hA hB hbA hbB hAl
  obtain ⟨w0, hw0⟩ : ∃ w0, w0 = w.alloc (.cells #[.int .u8 0, .string ⟨#[]⟩, .string ⟨#[]⟩, .string ⟨#[]⟩, .int .i64 0, .slice none 0 0] 39) := ⟨_, rfl⟩
  have hb0 : Below w.heap.size w w0 := by rw [hw0]; exact ba1 _ _
  have kres : Bk w0 w.heap.size 39 #[.int .u8 0, .string ⟨#[]⟩, .string ⟨#[]⟩, .string ⟨#[]⟩, .int .i64 0, .slice none 0 0] := by rw [hw0]; exact Bk.new _ _ _
  have HW0 := hide hw0
  have HB0 := hide hb0
  have HRes := hide kres
  have hz0 : w0.heap.size = w.heap.size + 1 := by rw [hw0]; simp
  have HZ0 := hide hz0
  clear hw0 hb0 kres hz0
  go_enter Tryz.func32, Tryz.ntmps32
  go_upto_region 4 with (go_at_call 53; rw [← HW0.out]; refine Calls.mono (HIx.out _) ?_; rintro e w1 ⟨rfl, rfl⟩)
  obtain ⟨w2, hw2⟩ : ∃ w2, w2 = w1.alloc (.cells #[.string A, .bool true] 115) := ⟨_, rfl⟩
  have HW2 := hide hw2
  have hb2 : Below w.heap.size w w2 := by rw [hw2]; exact HB0.out.trans ((ba1 _ _).mono HB0.out.size)
  have kr2 : Bk w2 w1.heap.size 115 #[.string A, .bool true] := by rw [hw2]; exact Bk.new _ _ _
  have ks2 := HRes.out.keep (show Below w1.heap.size w1 w2 by rw [hw2]; exact ba1 _ _)
  have HB2 := hide hb2
  have HK2 := hide kr2
  have HS2 := hide ks2
  clear hw2 hb2 kr2 ks2
  go_upto_region 6 with (go_at_call 55; rw [← HW2.out]; refine Calls.mono (HKd.out _ (HL.out.all HB2.out)) ?_; rintro e w3 ⟨rfl, hb3⟩; have HB3 := hide hb3; clear hb3)
  obtain ⟨W, hW⟩ : ∃ W, W = w3.alloc (.cells #[.int .u8 9, .string ⟨#[]⟩, .string ⟨#[]⟩, .string ⟨#[]⟩, .int .i64 0, .slice none 0 0] 39) := ⟨_, rfl⟩
  rw [← hW]
  have hst : StAt w W w1.heap.size w3.heap.size (r, true) #[.int .u8 9, .string ⟨#[]⟩, .string ⟨#[]⟩, .string ⟨#[]⟩, .int .i64 0, .slice none 0 0] := by
    have h3 := HB3.out.trans (show Below w2.heap.size w3 W by rw [hW]; exact (ba1 _ _).mono HB3.out.size)
    have hkw : Bk W w3.heap.size 39 #[.int .u8 9, .string ⟨#[]⟩, .string ⟨#[]⟩, .string ⟨#[]⟩, .int .i64 0, .slice none 0 0] := by rw [hW]; exact Bk.new _ _ _
    have hl : LrAt W w1.heap.size (r, true) := by unfold LrAt; rw [← HAr.out]; exact HK2.out.keep h3
    exact ⟨hl, hkw, HS2.out.keep h3, HB2.out.trans (h3.mono HB2.out.size), by rw [HZ0.out]; omega, Nat.lt_of_lt_of_le HK2.out.lt HB3.out.size⟩
  obtain ⟨gr, hgr⟩ : ∃ gr, gr = w1.heap.size := ⟨_, rfl⟩
  obtain ⟨gx, hgx⟩ : ∃ gx, gx = w3.heap.size := ⟨_, rfl⟩
  rw [← hgr, ← hgx] at hst
  rw [← hgr, ← hgx]
  clear hW HB3 HB2 HK2 HS2 HW2 HW0 HB0 HRes HKd HIx HZ0 hAe hBe hIw haw hal hgr hgx HAr
  clear hk10
  have HS := hide hst
  obtain ⟨lr0, x0, rs0, hb0, hlt1, hlt2⟩ := hst
  have y0 := x0.cell 0
  have lx := x0.lt
  clear lr0 x0 rs0 hb0
  obtain ⟨T1, hT1⟩ : ∃ T, T = rdNum (r, true) := ⟨_, rfl⟩
  have cT1 := fun W (h : LrAt W gr (r, true)) (hL : Lay W) (hg : 14 ≤ gr) => rnum_any gr (r, true) W h HrL.out hL hg
  rw [← hT1] at cT1
  have HCT1 := hide cT1
  have HT1 := hide hT1
  clear cT1 hT1
  have HGr := hide (show 14 ≤ gr from Nat.le_trans HL.out.size (Nat.le_of_lt hlt1))
  go_upto_region 24 with (go_at_call 57; refine Calls.mono (HCT1.out _ HS.out.1 (HL.out.all HS.out.2.2.2.1) HGr.out) ?_; rintro e w5 ⟨⟨v5, rfl, hv5⟩, hl, hf⟩; have HV5 := hide hv5; have HS5 := hide (StAt.call HS.out hf hl); have x5 := HS5.out.2.1; have fz := x5.free 4; have cz := x5.cell 4; have lz := x5.lt; clear hl hf x5 hv5)
  obtain ⟨W0, hW0⟩ : ∃ W', W' = w5.setCell ⟨gx, 4, none⟩ (.int .i64 v5) := ⟨_, rfl⟩
  rw [← hW0]
  have hs0 := StAt.set HS5.out 4 (.int .i64 v5)
  rw [← hW0] at hs0
  have HS := hide hs0
  clear hW0 hs0 fz cz lz HS5
  obtain ⟨q, hq⟩ : ∃ q, q = (([] : List UInt8), T1.2) := ⟨_, rfl⟩
  have hsf := HS.out
  rw [← hq] at hsf
  obtain ⟨S, ok⟩ := q
  have HQ := hide hq
  obtain ⟨lr, xr, rr, hbW, _, _⟩ := hsf
  have lr' : Bk W0 gr 115 #[.string (blB S), .bool ok] := lr
  obtain ⟨l0, l1⟩ := two_cells lr'
  obtain ⟨E, hE⟩ : ∃ E, E = (blB S).toList.isEmpty := ⟨_, rfl⟩
  have hE' : (blB S).toList.isEmpty = E := hE.symm
  have hES : (E = true) = (S = []) := by rw [hE, isEmpty_str, blB_size, decide_eq_true_eq, List.length_eq_zero_iff]
  have HES := hide hES
  have x0 := xr.cell 0
  have x1 := xr.cell 1
  have x2 := xr.cell 2
  have x3 := xr.cell 3
  have x4 := xr.cell 4
  have x5 := xr.cell 5
  have r0 := rr.cell 0
  have f0 := rr.free 0
  have r1 := rr.cell 1
  have f1 := rr.free 1
  have r2 := rr.cell 2
  have f2 := rr.free 2
  have r3 := rr.cell 3
  have f3 := rr.free 3
  have r4 := rr.cell 4
  have f4 := rr.free 4
  have r5 := rr.cell 5
  have f5 := rr.free 5
  have lw := rr.lt
  have lx := xr.lt
  have HRR := hide rr
  have HBW := hide hbW
  clear hq lr lr' hE hES hbW rr xr
  cases ok with
  | true =>
    go_region
    all_goals go_wp2_with fail
    refine bodyPost_ret (v := .tuple #[stpV ⟨9, ⟨#[]⟩, ⟨#[]⟩, ⟨#[]⟩, v5, []⟩ (.slice none 0 0), .bool E]) (res_stepD (put6_bk HRR.out _ _ _ _ _ _) rfl rfl) rfl ?_
    have he : stepK 9 r = if (true && E) = true then some ⟨9, ⟨#[]⟩, ⟨#[]⟩, ⟨#[]⟩, v5, []⟩ else none := by
      have hq2 := Prod.mk.inj HQ.out
      have hE2 : E = true := by rw [HES.out]; exact hq2.1
      rw [show stepK 9 r = (if (rdNum (r, true)).2 = true then some ⟨9, ⟨#[]⟩, ⟨#[]⟩, ⟨#[]⟩, (rdNum (r, true)).1, []⟩ else none) from rfl, ← HT1.out, ← hq2.2, hE2]
      rw [HV5.out hq2.2.symm]; rfl
    exact ⟨⟨⟨9, ⟨#[]⟩, ⟨#[]⟩, ⟨#[]⟩, v5, []⟩, (.slice none 0 0), E, rfl, World.ownsRow_nil _ _ _ _, he⟩, Below.drew (put6_below HBW.out (Nat.le_refl _) _ _ _ _ _ _)⟩
  | false =>
    go_region
    all_goals go_wp2_with fail
    refine bodyPost_ret (v := .tuple #[stpV ⟨9, ⟨#[]⟩, ⟨#[]⟩, ⟨#[]⟩, v5, []⟩ (.slice none 0 0), .bool false]) (res_stepD (put6_bk HRR.out _ _ _ _ _ _) rfl rfl) rfl ?_
    have he : stepK 9 r = if (false && E) = true then some ⟨9, ⟨#[]⟩, ⟨#[]⟩, ⟨#[]⟩, v5, []⟩ else none := by
      have hq2 := Prod.mk.inj HQ.out
      have hE2 : E = true := by rw [HES.out]; exact hq2.1
      rw [show stepK 9 r = (if (rdNum (r, true)).2 = true then some ⟨9, ⟨#[]⟩, ⟨#[]⟩, ⟨#[]⟩, (rdNum (r, true)).1, []⟩ else none) from rfl, ← HT1.out, ← hq2.2, hE2]
      rfl
    exact ⟨⟨⟨9, ⟨#[]⟩, ⟨#[]⟩, ⟨#[]⟩, v5, []⟩, (.slice none 0 0), false, rfl, World.ownsRow_nil _ _ _ _, he⟩, Below.drew (put6_below HBW.out (Nat.le_refl _) _ _ _ _ _ _)⟩
set_option maxRecDepth 100000 in
set_option maxHeartbeats 8000000 in
theorem step_1_10 (s : ByteArray) (w : World) (hs : s.size ≤ 100000000) (hL : Lay w) (hkk : kindB ((bl s).take (spaceI (bl s))) = 10) (hsd : Lib.indexByte (bl s) 32 = (spaceI (bl s) : Int)) :
    Calls Tryz.prog 32 #[.string s] w fun e w' => (∃ (st : Stp) (kv : Value) (b : Bool), e = .returned (.tuple #[stpV st kv, .bool b]) ∧ KpO w' w.heap.size kv st.keep ∧ stepB (bl s) = if b then some st else none) ∧ Below w.heap.size w w' := by
  obtain ⟨a, ha⟩ : ∃ a, a = spaceI (bl s) := ⟨_, rfl⟩
  have hal : a ≤ s.size := by have := space_le (bl s); rw [bl_size] at this; omega
  obtain ⟨A, hA⟩ : ∃ A, A = s.extract a s.size := ⟨_, rfl⟩
  obtain ⟨B, hB⟩ : ∃ B, B = s.extract 0 a := ⟨_, rfl⟩
  have hbA : bl A = (bl s).drop a := by rw [hA, bl_extract, List.take_of_length_le (by rw [bl_size]; exact Nat.le_refl _)]
  have hbB : bl B = (bl s).take a := by rw [hB, bl_extract, List.drop_zero]
  have hAl : A.size ≤ 100000000 := by rw [← bl_size, hbA, List.length_drop, bl_size]; omega
  have hBl : B.size ≤ 100000000 := by rw [← bl_size, hbB, List.length_take, bl_size]; omega
  have hst : stepB (bl s) = stepK (kindB (bl B)) (bl A) := by unfold stepB; rw [hbA, hbB, ha]
  rw [hst]
  have hk10 := kindB_le (bl B)
  have hkd := fun W hW => kind_any B W hBl hW
  obtain ⟨K, hK⟩ : ∃ K, K = kindB (bl B) := ⟨_, rfl⟩
  rw [← hK] at hkd hk10 ⊢
  obtain rfl : K = 10 := by rw [hK, hbB, ha]; exact hkk
  obtain ⟨r, hr⟩ : ∃ r, r = bl A := ⟨_, rfl⟩
  rw [← hr]
  have hAr : A = blB r := by rw [hr, blB_bl]
  have hrl : r.length ≤ 100000000 := by rw [hr, bl_size]; exact hAl
  have HKd := hide hkd
  have HL := hide hL
  have HAr := hide hAr
  have HrL := hide hrl
  have haw : (0 : Int) ≤ (a : Int) := by omega
  have hix : ∀ W, Calls Tryz.prog 53 #[.string s, .int .u8 32] W fun e w' => e = .returned (.int .i64 (a : Nat)) ∧ w' = W := fun W => by
    have := Tryz.strings_IndexByte s 32 W
    rw [show Lib.indexByte s.data.toList ((32 : Int).toNat.toUInt8) = (a : Int) from by rw [ha]; exact hsd] at this
    exact this
  have HIx := hide hix
  have hAe : s.extract a s.size = A := hA.symm
  have hBe : s.extract 0 a = B := hB.symm
  have hIw : IntKind.i64.wrap (a : Int) = (a : Int) := IntWalk.i64_in _ ⟨by omega, by omega⟩
  clear hst hkd hkk hsd hK hr hrl hL hix hAr ha hA hB hbA hbB hAl
  obtain ⟨w0, hw0⟩ : ∃ w0, w0 = w.alloc (.cells #[.int .u8 0, .string ⟨#[]⟩, .string ⟨#[]⟩, .string ⟨#[]⟩, .int .i64 0, .slice none 0 0] 39) := ⟨_, rfl⟩
  have hb0 : Below w.heap.size w w0 := by rw [hw0]; exact ba1 _ _
  have kres : Bk w0 w.heap.size 39 #[.int .u8 0, .string ⟨#[]⟩, .string ⟨#[]⟩, .string ⟨#[]⟩, .int .i64 0, .slice none 0 0] := by rw [hw0]; exact Bk.new _ _ _
  have HW0 := hide hw0
  have HB0 := hide hb0
  have HRes := hide kres
  have hz0 : w0.heap.size = w.heap.size + 1 := by rw [hw0]; simp
  have HZ0 := hide hz0
  clear hw0 hb0 kres hz0
  go_enter Tryz.func32, Tryz.ntmps32
  go_upto_region 4 with (go_at_call 53; rw [← HW0.out]; refine Calls.mono (HIx.out _) ?_; rintro e w1 ⟨rfl, rfl⟩)
  obtain ⟨w2, hw2⟩ : ∃ w2, w2 = w1.alloc (.cells #[.string A, .bool true] 115) := ⟨_, rfl⟩
  have HW2 := hide hw2
  have hb2 : Below w.heap.size w w2 := by rw [hw2]; exact HB0.out.trans ((ba1 _ _).mono HB0.out.size)
  have kr2 : Bk w2 w1.heap.size 115 #[.string A, .bool true] := by rw [hw2]; exact Bk.new _ _ _
  have ks2 := HRes.out.keep (show Below w1.heap.size w1 w2 by rw [hw2]; exact ba1 _ _)
  have HB2 := hide hb2
  have HK2 := hide kr2
  have HS2 := hide ks2
  clear hw2 hb2 kr2 ks2
  go_upto_region 6 with (go_at_call 55; rw [← HW2.out]; refine Calls.mono (HKd.out _ (HL.out.all HB2.out)) ?_; rintro e w3 ⟨rfl, hb3⟩; have HB3 := hide hb3; clear hb3)
  obtain ⟨W, hW⟩ : ∃ W, W = w3.alloc (.cells #[.int .u8 10, .string ⟨#[]⟩, .string ⟨#[]⟩, .string ⟨#[]⟩, .int .i64 0, .slice none 0 0] 39) := ⟨_, rfl⟩
  rw [← hW]
  have hst : StAt w W w1.heap.size w3.heap.size (r, true) #[.int .u8 10, .string ⟨#[]⟩, .string ⟨#[]⟩, .string ⟨#[]⟩, .int .i64 0, .slice none 0 0] := by
    have h3 := HB3.out.trans (show Below w2.heap.size w3 W by rw [hW]; exact (ba1 _ _).mono HB3.out.size)
    have hkw : Bk W w3.heap.size 39 #[.int .u8 10, .string ⟨#[]⟩, .string ⟨#[]⟩, .string ⟨#[]⟩, .int .i64 0, .slice none 0 0] := by rw [hW]; exact Bk.new _ _ _
    have hl : LrAt W w1.heap.size (r, true) := by unfold LrAt; rw [← HAr.out]; exact HK2.out.keep h3
    exact ⟨hl, hkw, HS2.out.keep h3, HB2.out.trans (h3.mono HB2.out.size), by rw [HZ0.out]; omega, Nat.lt_of_lt_of_le HK2.out.lt HB3.out.size⟩
  obtain ⟨gr, hgr⟩ : ∃ gr, gr = w1.heap.size := ⟨_, rfl⟩
  obtain ⟨gx, hgx⟩ : ∃ gx, gx = w3.heap.size := ⟨_, rfl⟩
  rw [← hgr, ← hgx] at hst
  rw [← hgr, ← hgx]
  clear hW HB3 HB2 HK2 HS2 HW2 HW0 HB0 HRes HKd HIx HZ0 hAe hBe hIw haw hal hgr hgx HAr
  clear hk10
  have HS := hide hst
  obtain ⟨lr0, x0, rs0, hb0, hlt1, hlt2⟩ := hst
  have y0 := x0.cell 0
  have lx := x0.lt
  clear lr0 x0 rs0 hb0
  obtain ⟨T1, hT1⟩ : ∃ T, T = rdKeep (r, true) := ⟨_, rfl⟩
  have cT1 := fun W (h : LrAt W gr (r, true)) => rkeep_any gr (r, true) W h HrL.out
  rw [← hT1] at cT1
  have HCT1 := hide cT1
  have HT1 := hide hT1
  clear cT1 hT1
  go_upto_region 24 with (go_at_call 58; refine Calls.mono (HCT1.out _ HS.out.1) ?_; rintro e w5 ⟨⟨kv5, rfl, hk5⟩, hl, hf⟩; obtain ⟨A5, c5, rfl⟩ := own_formk hk5; have HK5 := hide (show KpO w5 w.heap.size (.slice A5 T1.1.length c5) T1.1 from own_base hk5 (fun g hg => Nat.le_trans HS.out.2.2.2.1.size (hk5.lt g hg).1)); have HS5 := hide (StAt.call HS.out hf hl); have x5 := HS5.out.2.1; have fz := x5.free 5; have cz := x5.cell 5; have lz := x5.lt; clear hl hf x5 hk5)
  obtain ⟨W0, hW0⟩ : ∃ W', W' = w5.setCell ⟨gx, 5, none⟩ (.slice A5 T1.1.length c5) := ⟨_, rfl⟩
  rw [← hW0]
  have hs0 := StAt.set HS5.out 5 (.slice A5 T1.1.length c5)
  rw [← hW0] at hs0
  have HS := hide hs0
  have HKO := hide (show KpO W0 w.heap.size (.slice A5 T1.1.length c5) T1.1 by rw [hW0]; exact own_set HK5.out (fun e => own_ne HK5.out HS5.out.2.1 (by decide) e.symm) _)
  clear hW0 hs0 fz cz lz HS5
  obtain ⟨q, hq⟩ : ∃ q, q = (([] : List UInt8), T1.2) := ⟨_, rfl⟩
  have hsf := HS.out
  rw [← hq] at hsf
  obtain ⟨S, ok⟩ := q
  have HQ := hide hq
  obtain ⟨lr, xr, rr, hbW, _, _⟩ := hsf
  have lr' : Bk W0 gr 115 #[.string (blB S), .bool ok] := lr
  obtain ⟨l0, l1⟩ := two_cells lr'
  obtain ⟨E, hE⟩ : ∃ E, E = (blB S).toList.isEmpty := ⟨_, rfl⟩
  have hE' : (blB S).toList.isEmpty = E := hE.symm
  have hES : (E = true) = (S = []) := by rw [hE, isEmpty_str, blB_size, decide_eq_true_eq, List.length_eq_zero_iff]
  have HES := hide hES
  have x0 := xr.cell 0
  have x1 := xr.cell 1
  have x2 := xr.cell 2
  have x3 := xr.cell 3
  have x4 := xr.cell 4
  have x5 := xr.cell 5
  have r0 := rr.cell 0
  have f0 := rr.free 0
  have r1 := rr.cell 1
  have f1 := rr.free 1
  have r2 := rr.cell 2
  have f2 := rr.free 2
  have r3 := rr.cell 3
  have f3 := rr.free 3
  have r4 := rr.cell 4
  have f4 := rr.free 4
  have r5 := rr.cell 5
  have f5 := rr.free 5
  have lw := rr.lt
  have lx := xr.lt
  have HRR := hide rr
  have HBW := hide hbW
  clear hq lr lr' hE hES hbW rr xr
  cases ok with
  | true =>
    go_region
    all_goals go_wp2_with fail
    refine bodyPost_ret (v := .tuple #[stpV ⟨10, ⟨#[]⟩, ⟨#[]⟩, ⟨#[]⟩, 0, T1.1⟩ (.slice A5 T1.1.length c5), .bool E]) (res_stepD (put6_bk HRR.out _ _ _ _ _ _) rfl rfl) rfl ?_
    have he : stepK 10 r = if (true && E) = true then some ⟨10, ⟨#[]⟩, ⟨#[]⟩, ⟨#[]⟩, 0, T1.1⟩ else none := by
      have hq2 := Prod.mk.inj HQ.out
      have hE2 : E = true := by rw [HES.out]; exact hq2.1
      rw [show stepK 10 r = (if (rdKeep (r, true)).2 = true then some ⟨10, ⟨#[]⟩, ⟨#[]⟩, ⟨#[]⟩, 0, (rdKeep (r, true)).1⟩ else none) from rfl, ← HT1.out, ← hq2.2, hE2]
      rfl
    exact ⟨⟨⟨10, ⟨#[]⟩, ⟨#[]⟩, ⟨#[]⟩, 0, T1.1⟩, (.slice A5 T1.1.length c5), E, rfl, own_drew (own_put6 HKO.out (fun e => own_ne HKO.out HRR.out (by decide) e.symm) _ _ _ _ _ _), he⟩, Below.drew (put6_below HBW.out (Nat.le_refl _) _ _ _ _ _ _)⟩
  | false =>
    go_region
    all_goals go_wp2_with fail
    refine bodyPost_ret (v := .tuple #[stpV ⟨10, ⟨#[]⟩, ⟨#[]⟩, ⟨#[]⟩, 0, T1.1⟩ (.slice A5 T1.1.length c5), .bool false]) (res_stepD (put6_bk HRR.out _ _ _ _ _ _) rfl rfl) rfl ?_
    have he : stepK 10 r = if (false && E) = true then some ⟨10, ⟨#[]⟩, ⟨#[]⟩, ⟨#[]⟩, 0, T1.1⟩ else none := by
      have hq2 := Prod.mk.inj HQ.out
      have hE2 : E = true := by rw [HES.out]; exact hq2.1
      rw [show stepK 10 r = (if (rdKeep (r, true)).2 = true then some ⟨10, ⟨#[]⟩, ⟨#[]⟩, ⟨#[]⟩, 0, (rdKeep (r, true)).1⟩ else none) from rfl, ← HT1.out, ← hq2.2, hE2]
      rfl
    exact ⟨⟨⟨10, ⟨#[]⟩, ⟨#[]⟩, ⟨#[]⟩, 0, T1.1⟩, (.slice A5 T1.1.length c5), false, rfl, own_drew (own_put6 HKO.out (fun e => own_ne HKO.out HRR.out (by decide) e.symm) _ _ _ _ _ _), he⟩, Below.drew (put6_below HBW.out (Nat.le_refl _) _ _ _ _ _ _)⟩
end Go.Proofs.YtahnnebpadbopaaGreatDoor
/- Walk: front.step (printed by gen_fsa.py). -/
namespace Go.Proofs.YtahnnebpadbopaaGreatDoor
open Go.RowKit

theorem fstep_any (s : ByteArray) (w : World) (hs : s.size ≤ 100000000) (hL : Lay w) :
    Calls Tryz.prog 32 #[.string s] w fun e w' => (∃ (st : Stp) (kv : Value) (b : Bool), e = .returned (.tuple #[stpV st kv, .bool b]) ∧ KpO w' w.heap.size kv st.keep ∧ stepB (bl s) = if b then some st else none) ∧ Below w.heap.size w w' := by
  have hk10 := kindB_le ((bl s).take (spaceI (bl s)))
  obtain ⟨K, hK⟩ : ∃ K, K = kindB ((bl s).take (spaceI (bl s))) := ⟨_, rfl⟩
  rw [← hK] at hk10
  have hk : K = 0 ∨ K = 1 ∨ K = 2 ∨ K = 3 ∨ K = 4 ∨ K = 5 ∨ K = 6 ∨ K = 7 ∨ K = 8 ∨ K = 9 ∨ K = 10 := by omega
  rcases space_idx (bl s) with ⟨h1, h2⟩ | ⟨k, h1, h2, h3⟩
  · rcases hk with rfl | rfl | rfl | rfl | rfl | rfl | rfl | rfl | rfl | rfl | rfl
    · exact step_0_0 s w hs hL hK.symm h1
    · exact step_0_1 s w hs hL hK.symm h1
    · exact step_0_2 s w hs hL hK.symm h1
    · exact step_0_3 s w hs hL hK.symm h1
    · exact step_0_4 s w hs hL hK.symm h1
    · exact step_0_5 s w hs hL hK.symm h1
    · exact step_0_6 s w hs hL hK.symm h1
    · exact step_0_7 s w hs hL hK.symm h1
    · exact step_0_8 s w hs hL hK.symm h1
    · exact step_0_9 s w hs hL hK.symm h1
    · exact step_0_10 s w hs hL hK.symm h1
  · rcases hk with rfl | rfl | rfl | rfl | rfl | rfl | rfl | rfl | rfl | rfl | rfl
    · exact step_1_0 s w hs hL hK.symm (by rw [h1, h2])
    · exact step_1_1 s w hs hL hK.symm (by rw [h1, h2])
    · exact step_1_2 s w hs hL hK.symm (by rw [h1, h2])
    · exact step_1_3 s w hs hL hK.symm (by rw [h1, h2])
    · exact step_1_4 s w hs hL hK.symm (by rw [h1, h2])
    · exact step_1_5 s w hs hL hK.symm (by rw [h1, h2])
    · exact step_1_6 s w hs hL hK.symm (by rw [h1, h2])
    · exact step_1_7 s w hs hL hK.symm (by rw [h1, h2])
    · exact step_1_8 s w hs hL hK.symm (by rw [h1, h2])
    · exact step_1_9 s w hs hL hK.symm (by rw [h1, h2])
    · exact step_1_10 s w hs hL hK.symm (by rw [h1, h2])
end Go.Proofs.YtahnnebpadbopaaGreatDoor
/- Walk: front.parse. -/
namespace Go.Proofs.YtahnnebpadbopaaGreatDoor
open Go.RowKit

theorem info_stp : (Tryz.prog.info? 39).map (fun i => (i.zero, i.size, i.bytes)) = some (some (.agg #[.int .u8 0, .string ⟨#[]⟩, .string ⟨#[]⟩, .string ⟨#[]⟩, .int .i64 0, .slice none 0 0]), 6, 88) := by kernel_rfl
theorem cut_len (l : List UInt8) (h : l ≠ []) : (Lib.cut l [10]).1.length ≤ l.length ∧ (Lib.cut l [10]).2.1.length < l.length := by
  rcases nl_split l with h1 | ⟨a, b, rfl, h1⟩
  · rw [cut_no l h1]
    exact ⟨Nat.le_refl _, by cases l with | nil => exact absurd rfl h | cons a t => simp⟩
  · rw [cut_nl a b h1]
    simp only [List.length_append, List.length_cons]
    omega
def nextP (g : Nat) (out : List Stp) (c1 c2 : List UInt8) (c3 : Bool) : List Stp × Nat × Int :=
  match c3, stepB c1 with
  | true, some x => parseF g c2 (out ++ [x])
  | _, _ => ([], out.length, 7)
theorem parse_next (g : Nat) (s : List UInt8) (out : List Stp) (h : s ≠ []) : parseF (g + 1) s out = nextP g out (Lib.cut s [10]).1 (Lib.cut s [10]).2.1 (Lib.cut s [10]).2.2 := by rw [parseF, if_neg h]; rfl
/-- What 'parse' answers. -/
def ParseA (w : World) (R : List Stp × Nat × Int) (e : Ending) (w' : World) : Prop :=
  (R.2.2 = 0 ∧ R.2.1 = R.1.length ∧ ∃ V, e = .returned (.tuple #[V, .nilIface]) ∧ StsO w' w.heap.size V R.1) ∨
  (R.2.2 = 7 ∧ R.1 = [] ∧ ∃ g, e = .returned (.tuple #[.slice none 0 0, .iface 46 (.pointer (some ⟨g, 0, none⟩))]) ∧ w.heap.size ≤ g ∧ Bk w' g 50 #[.int .i64 (R.2.1 : Nat), .iface 23 (.int .i64 7)])
set_option maxRecDepth 100000 in
set_option maxHeartbeats 8000000 in
theorem parse_any (s : ByteArray) (w : World) (hs : s.size ≤ 100000000) (hL : Lay w) :
    Calls Tryz.prog 18 #[.string s] w fun e w' => ParseA w (parseB (bl s)) e w' ∧ Below w.heap.size w w' := by
  obtain ⟨R, hR⟩ : ∃ R, R = parseB (bl s) := ⟨_, rfl⟩
  rw [← hR]
  have hR0 : R = parseF (s.size + 1) (bl s) [] := by rw [hR]; unfold parseB; rw [bl_size]
  have HR0 := hide hR0
  have HL := hide hL
  clear hR hR0 hL
  obtain ⟨i0, hi, hz0, hz1, hz2⟩ := info_parts info_stp
  go_enter Tryz.func18, Tryz.ntmps18
  go_wp2_with fail
  go_loopw [0, 4] (fun sv ov wr => ∃ (s1 : ByteArray) (f : Nat) (out : List Stp), sv = .string s1 ∧ s1.size < f ∧ s1.size ≤ s.size ∧ out.length + s1.size ≤ s.size ∧ Hid (R = parseF f (bl s1) out) ∧ Hid (StsO wr w.heap.size ov out) ∧ Hid (Below w.heap.size w wr)) (fun sv _ _ => match sv with | .string t => t.size | _ => 0)
  case atStart => exact ⟨s, s.size + 1, [], rfl, by omega, by omega, by simp, HR0, hide (StsO.nil _ _), hide (Below.refl _ _)⟩
  case round =>
    clear HR0
    obtain ⟨s1, f, out, rfl, hf, hs1, hos, hRr, hO, hB⟩ := hrel
    obtain ⟨g, rfl⟩ : ∃ g, f = g + 1 := ⟨f - 1, by omega⟩
    have hz := hB.out.size
    by_cases he : s1.size = 0
    · have hE : s1.toList.isEmpty = true := by rw [isEmpty_str, decide_eq_true he]
      have hs0 : bl s1 = [] := List.eq_nil_of_length_eq_zero (by rw [bl_size, he])
      have hRe : R = (out, out.length, 0) := by rw [hRr.out, hs0, parse_nil]
      have HRe := hide hRe
      clear hRe hRr hs0
      go_wp2_with fail
      go_ret2
      exact ⟨.inl ⟨by rw [HRe.out], by rw [HRe.out], _, rfl, by rw [HRe.out]; exact hO.out⟩, hB.out⟩
    · have hE : s1.toList.isEmpty = false := by rw [isEmpty_str, decide_eq_false he]
      have hne : bl s1 ≠ [] := fun h => he (by rw [← bl_size, h]; rfl)
      obtain ⟨m, hm⟩ := HL.out.max
      have hct := fun W (hW : Below w.heap.size w W) => Tryz.strings_Cut s1 ⟨#[10]⟩ m W (by omega) ((hW.cell (by show _ < _; exact Nat.lt_of_lt_of_le (by decide) HL.out.size)).trans hm)
      obtain ⟨C, hC⟩ : ∃ C, C = Lib.cut (bl s1) [10] := ⟨_, rfl⟩
      have hcl := cut_len (bl s1) hne
      rw [← hC, bl_size] at hcl
      obtain ⟨c1, c2, c3⟩ := C
      dsimp only at hcl
      have hRs : R = nextP g out c1 c2 c3 := by rw [hRr.out, parse_next g _ out hne, ← hC]
      have hct' := fun W hW => (show Calls Tryz.prog 31 #[.string s1, .string ⟨#[10]⟩] W fun e w' => e = .returned (.tuple #[.string (blB c1), .string (blB c2), .bool c3]) ∧ ∃ n, w' = W.drewN n from by
        have := hct W hW
        rw [show Lib.cut s1.data.toList ((⟨#[10]⟩ : ByteArray).data.toList) = (c1, c2, c3) from hC.symm] at this
        exact this)
      have hst := fun W (hW : Below w.heap.size w W) => fstep_any (blB c1) W (by rw [blB_size]; omega) (HL.out.all hW)
      rw [bl_blB] at hst
      have HCt := hide hct'
      have HSt := hide hst
      have HRs := hide hRs
      clear hct hct' hst hRs hC hne hRr
      go_upto_region 5 with (first
        | (go_at_call 31; refine Calls.mono (HCt.out _ hB.out) ?_; rintro e w1 ⟨rfl, n1, rfl⟩)
        | (go_at_call 32; refine Calls.mono (HSt.out _ (hB.out.trans (below_nq _ _))) ?_; rintro e w2 ⟨⟨st, kv, b, rfl, hk, hsb⟩, hb2⟩; obtain ⟨A2, k2, rfl⟩ := own_formk hk; unfold stpV; have HK2 := hide hk; have HSb := hide hsb; have HB2 := hide hb2; clear hk hsb hb2))
      obtain ⟨W3, hW3⟩ : ∃ W3, W3 = w2.alloc (.cells #[.int .u8 (st.kind : Nat), .string st.nm, .string st.to_, .string st.tx, .int .i64 st.n, .slice A2 st.keep.length k2] 39) := ⟨_, rfl⟩
      rw [← hW3]
      have hb3 : Below wr.heap.size wr W3 := by rw [hW3]; exact ((below_nq wr n1).trans HB2.out).trans ((ba1 _ _).mono HB2.out.size)
      have kx : Bk W3 w2.heap.size 39 #[.int .u8 (st.kind : Nat), .string st.nm, .string st.to_, .string st.tx, .int .i64 st.n, .slice A2 st.keep.length k2] := by rw [hW3]; exact Bk.new _ _ _
      have hk3 : KpO W3 w.heap.size (.slice A2 st.keep.length k2) st.keep := by
        rw [hW3]
        exact own_base (own_keep HK2.out (ba1 _ _)) (fun g hg => Nat.le_trans hz ((HK2.out.lt g hg).1))
      have hO3 := hO.out.keep hb3
      have x0 := kx.cell 0
      have x1 := kx.cell 1
      have x2 := kx.cell 2
      have x3 := kx.cell 3
      have x4 := kx.cell 4
      have x5 := kx.cell 5
      have lx := kx.lt
      have hz3 := hb3.size
      have HB3 := hide (hB.out.trans (hb3.mono hz))
      have HK3 := hide hk3
      clear hW3 hb3 kx hk3 HK2 HB2 HCt HSt hm hE he
      cases c3 with
      | false =>
        have hRe : R = ([], out.length, 7) := by rw [HRs.out]; rfl
        have HRe := hide hRe
        obtain ⟨kvs, e1, e2, e3⟩ := hO3
        obtain ⟨A4, c4, rfl⟩ := own_formk e2
        clear hRe HRs e1 e2 e3
        go_wp2_with fail
        go_ret2
        exact ⟨.inr ⟨by rw [HRe.out], by rw [HRe.out], W3.heap.size, rfl, HB3.out.size, by rw [HRe.out]; exact Bk.new _ _ _⟩, HB3.out.trans ((ba1 _ _).mono HB3.out.size)⟩
      | true =>
        cases b with
        | false =>
          have hRe : R = ([], out.length, 7) := by rw [HRs.out]; unfold nextP; rw [HSb.out]; rfl
          have HRe := hide hRe
          obtain ⟨kvs, e1, e2, e3⟩ := hO3
          obtain ⟨A4, c4, rfl⟩ := own_formk e2
          clear hRe HRs e1 e2 e3
          go_wp2_with fail
          go_ret2
          exact ⟨.inr ⟨by rw [HRe.out], by rw [HRe.out], W3.heap.size, rfl, HB3.out.size, by rw [HRe.out]; exact Bk.new _ _ _⟩, HB3.out.trans ((ba1 _ _).mono HB3.out.size)⟩
        | true =>
          have hRe : R = parseF g c2 (out ++ [st]) := by rw [HRs.out]; unfold nextP; rw [HSb.out]; rfl
          have HRe := hide hRe
          obtain ⟨kvs, e1, e2, e3⟩ := hO3
          obtain ⟨A4, c4, rfl⟩ := own_formk e2
          have HE1 := hide e1
          have HE2 := hide e2
          have HE3 := hide e3
          clear hRe HRs e1 e2 e3
          go_wp2_with (at_builtin; refine wpList_append_own _ rfl (.tmp 35) (.tmp 37) 22 rfl w.heap.size 39 i0 _ 6 88 Tryz.underlying22 hi hz0 hz1 hz2 rfl (by decide) (.slice A4 out.length c4) out.length _ rfl (HE2.out.alloc _) ⟨W3.heap.size, 0, none⟩ 1 1 (stpC st (.slice A2 st.keep.length k2)) rfl rfl (World.news_of_block (Bk.new _ _ _)) (by intro u hu; simp [stpC] at hu; rcases hu with rfl | rfl | rfl | rfl | rfl | rfl <;> rfl) (by unfold maxLen; omega) (by omega) (by have := HB3.out.size; simp; omega) ?_; intro v5 w5 hown5 hgr5 _; have HO5 := hide hown5; have HG5 := hide hgr5; clear hown5 hgr5)
          exact ⟨⟨blB c2, g, out ++ [st], rfl, by rw [blB_size]; omega, by rw [blB_size]; omega, by rw [blB_size, List.length_append, List.length_singleton]; omega, (by rw [bl_blB]; exact HRe), hide (StsO.put (w := W3.alloc _) HE1.out (HE2.out.alloc _) (fun i s u a b => own_keep (HE3.out i s u a b) (ba1 _ _)) (own_keep HK3.out (ba1 _ _)) HO5.out HG5.out), hide ((HB3.out.alloc HB3.out.size _).grown HG5.out (by have := HB3.out.size; simp; omega) (fun g hg => (HE2.out.lt g hg).1))⟩, by show (blB c2).size < _; rw [blB_size]; exact hcl.2⟩
end Go.Proofs.YtahnnebpadbopaaGreatDoor
