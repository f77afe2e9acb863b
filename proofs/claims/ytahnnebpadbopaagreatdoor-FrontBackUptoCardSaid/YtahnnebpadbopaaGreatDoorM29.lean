/- Lemmas for the row: FsD. -/
import Derived.Test.YtahnnebpadbopaaGreatDoorM28
set_option linter.unusedVariables false
/- Walk: wringerref32.guess (printed by gen_fsd.py). -/
namespace Go.Proofs.YtahnnebpadbopaaGreatDoor
open Go.RowKit

set_option maxRecDepth 100000 in
theorem res_guess {W : World} {g : Nat} {c0 c1 c2 c3 c4 c5 : Value} {tmps : Array Value} (h : Bk W g 39 #[c0, c1, c2, c3, c4, c5]) (h2 : tmps.getD 2 undef = .pointer (some ⟨g, 0, none⟩)) :
    (results Tryz.f20 tmps).run Tryz.prog W = .ok (.agg #[c0, c1, c2, c3, c4, c5]) W := by
  have d0 : W.cell? ⟨g, 0, none⟩ = some c0 := h.cell 0
  have d1 : W.cell? ⟨g, 1, none⟩ = some c1 := h.cell 1
  have d2 : W.cell? ⟨g, 2, none⟩ = some c2 := h.cell 2
  have d3 : W.cell? ⟨g, 3, none⟩ = some c3 := h.cell 3
  have d4 : W.cell? ⟨g, 4, none⟩ = some c4 := h.cell 4
  have d5 : W.cell? ⟨g, 5, none⟩ = some c5 := h.cell 5
  rw [Array.getD_eq_getD_getElem?] at h2
  simp [results, Tryz.results20, go_sem, h2, asAddr, d0, d1, d2, d3, d4, d5]
theorem begB_len {s p r : List UInt8} (h : begB s p = some r) : r.length ≤ s.length := by
  unfold begB at h
  split at h
  · cases h; rw [List.length_drop]; omega
  · cases h
theorem beq_dec (a b : List UInt8) : (a == b) = decide (a = b) := by
  by_cases h : a = b
  · rw [decide_eq_true h, h]; simp
  · rw [decide_eq_false h, beq_eq_false_iff_ne]; exact h
/-- What is laid for the result of 'guess'. -/
def zStep : Obj := .cells #[.int .u8 0, .string ⟨#[]⟩, .string ⟨#[]⟩, .string ⟨#[]⟩, .int .i64 0, .slice none 0 0] 39
set_option maxRecDepth 100000 in
set_option maxHeartbeats 8000000 in
theorem guess_any (s : ByteArray) (w : World) (hs : s.size ≤ 100000000) :
    Calls Tryz.prog 20 #[.string s] w fun e w' => (∃ kv, e = .returned (stpV (guessB (bl s)) kv) ∧ KpO w' w.heap.size kv (guessB (bl s)).keep) ∧ Below w.heap.size w w' := by
  obtain ⟨bs, bo, hb, hbs, hbo⟩ : ∃ (bs : ByteArray → ByteArray) (bo : ByteArray → Bool), (∀ p W, Calls Tryz.prog 37 #[.string s, .string p] W fun e w' => e = .returned (.tuple #[.string (bs p), .bool (bo p)]) ∧ w' = W) ∧ (∀ p, bs p = blB ((begB (bl s) (bl p)).getD [])) ∧ ∀ p, bo p = (begB (bl s) (bl p)).isSome := ⟨_, _, fun p W => begins_any s p W, fun _ => rfl, fun _ => rfl⟩
  have HB := hide hb
  have Hbs := hide hbs
  have Hbo := hide hbo
  clear hb hbs hbo
  obtain ⟨w0, hw0⟩ : ∃ w0, w0 = w.alloc zStep := ⟨_, rfl⟩
  have hb0 : Below w.heap.size w w0 := by rw [hw0]; exact ba1 _ _
  have k0 : Bk w0 w.heap.size 39 #[.int .u8 0, .string ⟨#[]⟩, .string ⟨#[]⟩, .string ⟨#[]⟩, .int .i64 0, .slice none 0 0] := by rw [hw0]; exact Bk.new _ _ _
  have HW0 := hide (show w0 = w.alloc (.cells #[.int .u8 0, .string ⟨#[]⟩, .string ⟨#[]⟩, .string ⟨#[]⟩, .int .i64 0, .slice none 0 0] 39) from hw0)
  have HB0 := hide hb0
  have HK0 := hide k0
  clear hw0 hb0 k0
  cases h1 : begB (bl s) [112, 117, 116, 32] with
  | some r =>
    have g1 : bo ⟨#[112, 117, 116, 32]⟩ = true := by rw [Hbo.out]; show (begB (bl s) [112, 117, 116, 32]).isSome = true; rw [h1]; rfl
    obtain ⟨V, hV⟩ : ∃ V, V = blB r := ⟨_, rfl⟩
    have e1 : bs ⟨#[112, 117, 116, 32]⟩ = V := by rw [Hbs.out]; show blB ((begB (bl s) [112, 117, 116, 32]).getD []) = V; rw [h1, hV]; rfl
    have hrl := begB_len h1
    have hVs : V.size ≤ 100000000 := by rw [hV, blB_size]; rw [bl_size] at hrl; omega
    have hg : guessB (bl s) = ⟨1, blB (textsB r).1, ⟨#[]⟩, blB (textsB r).2, 0, []⟩ := by unfold guessB; rw [h1]
    have ht := fun W => texts_any V W hVs
    rw [show bl V = r by rw [hV, bl_blB]] at ht
    obtain ⟨A, hA⟩ : ∃ A, A = blB (textsB r).1 := ⟨_, rfl⟩
    obtain ⟨B, hB⟩ : ∃ B, B = blB (textsB r).2 := ⟨_, rfl⟩
    rw [← hA, ← hB] at ht
    rw [← hA, ← hB] at hg
    have HT := hide ht
    have HG := hide hg
    clear ht hg hV hA hrl hVs hB h1
    go_enter Tryz.func20, Tryz.ntmps20
    go_wp2_with (first | (go_at_call 38; refine Calls.mono (HT.out _) ?_; rintro e W ⟨rfl, hbt⟩; have hkw := HK0.out.keep hbt; have c0 := hkw.cell 0; have f0 := hkw.free 0; have c1 := hkw.cell 1; have f1 := hkw.free 1; have c2 := hkw.cell 2; have f2 := hkw.free 2; have c3 := hkw.cell 3; have f3 := hkw.free 3; have c4 := hkw.cell 4; have f4 := hkw.free 4; have c5 := hkw.cell 5; have f5 := hkw.free 5; have lw := hkw.lt; have HKw := hide hkw; have HBw := hide (HB0.out.trans (hbt.mono HB0.out.size)); clear hkw hbt) | (go_at_call 37; rw [← HW0.out]; refine Calls.mono (HB.out _ _) ?_; rintro e W ⟨rfl, ew⟩; obtain rfl : w0 = W := ew.symm) | (go_at_call 37; refine Calls.mono (HB.out _ _) ?_; rintro e W ⟨rfl, ew⟩; obtain rfl : w0 = W := ew.symm))
    refine bodyPost_ret (v := stpV ⟨1, A, ⟨#[]⟩, B, 0, []⟩ (.slice none 0 0)) (res_guess (put6_bk HKw.out _ _ _ _ _ _) rfl) rfl ?_
    exact ⟨⟨(.slice none 0 0), by rw [HG.out], by rw [HG.out]; exact World.ownsRow_nil _ _ _ _⟩, put6_below HBw.out (Nat.le_refl _) _ _ _ _ _ _⟩
  | none =>
    have g1 : bo ⟨#[112, 117, 116, 32]⟩ = false := by rw [Hbo.out]; show (begB (bl s) [112, 117, 116, 32]).isSome = false; rw [h1]; rfl
    cases h2 : begB (bl s) [103, 101, 116, 32] with
    | some r =>
      have g2 : bo ⟨#[103, 101, 116, 32]⟩ = true := by rw [Hbo.out]; show (begB (bl s) [103, 101, 116, 32]).isSome = true; rw [h2]; rfl
      obtain ⟨V, hV⟩ : ∃ V, V = blB r := ⟨_, rfl⟩
      have e2 : bs ⟨#[103, 101, 116, 32]⟩ = V := by rw [Hbs.out]; show blB ((begB (bl s) [103, 101, 116, 32]).getD []) = V; rw [h2, hV]; rfl
      have hrl := begB_len h2
      have hVs : V.size ≤ 100000000 := by rw [hV, blB_size]; rw [bl_size] at hrl; omega
      have hg : guessB (bl s) = ⟨2, blB (textsB r).1, ⟨#[]⟩, ⟨#[]⟩, 0, []⟩ := by unfold guessB; rw [h1, h2]
      have ht := fun W => texts_any V W hVs
      rw [show bl V = r by rw [hV, bl_blB]] at ht
      obtain ⟨A, hA⟩ : ∃ A, A = blB (textsB r).1 := ⟨_, rfl⟩
      obtain ⟨B, hB⟩ : ∃ B, B = blB (textsB r).2 := ⟨_, rfl⟩
      rw [← hA, ← hB] at ht
      rw [← hA] at hg
      have HT := hide ht
      have HG := hide hg
      clear ht hg hV hA hrl hVs hB h1 h2
      go_enter Tryz.func20, Tryz.ntmps20
      go_wp2_with (first | (go_at_call 38; refine Calls.mono (HT.out _) ?_; rintro e W ⟨rfl, hbt⟩; have hkw := HK0.out.keep hbt; have c0 := hkw.cell 0; have f0 := hkw.free 0; have c1 := hkw.cell 1; have f1 := hkw.free 1; have c2 := hkw.cell 2; have f2 := hkw.free 2; have c3 := hkw.cell 3; have f3 := hkw.free 3; have c4 := hkw.cell 4; have f4 := hkw.free 4; have c5 := hkw.cell 5; have f5 := hkw.free 5; have lw := hkw.lt; have HKw := hide hkw; have HBw := hide (HB0.out.trans (hbt.mono HB0.out.size)); clear hkw hbt) | (go_at_call 37; rw [← HW0.out]; refine Calls.mono (HB.out _ _) ?_; rintro e W ⟨rfl, ew⟩; obtain rfl : w0 = W := ew.symm) | (go_at_call 37; refine Calls.mono (HB.out _ _) ?_; rintro e W ⟨rfl, ew⟩; obtain rfl : w0 = W := ew.symm))
      refine bodyPost_ret (v := stpV ⟨2, A, ⟨#[]⟩, ⟨#[]⟩, 0, []⟩ (.slice none 0 0)) (res_guess (put6_bk HKw.out _ _ _ _ _ _) rfl) rfl ?_
      exact ⟨⟨(.slice none 0 0), by rw [HG.out], by rw [HG.out]; exact World.ownsRow_nil _ _ _ _⟩, put6_below HBw.out (Nat.le_refl _) _ _ _ _ _ _⟩
    | none =>
      have g2 : bo ⟨#[103, 101, 116, 32]⟩ = false := by rw [Hbo.out]; show (begB (bl s) [103, 101, 116, 32]).isSome = false; rw [h2]; rfl
      cases h3 : begB (bl s) [102, 114, 101, 101, 32] with
      | some r =>
        have g3 : bo ⟨#[102, 114, 101, 101, 32]⟩ = true := by rw [Hbo.out]; show (begB (bl s) [102, 114, 101, 101, 32]).isSome = true; rw [h3]; rfl
        obtain ⟨V, hV⟩ : ∃ V, V = blB r := ⟨_, rfl⟩
        have e3 : bs ⟨#[102, 114, 101, 101, 32]⟩ = V := by rw [Hbs.out]; show blB ((begB (bl s) [102, 114, 101, 101, 32]).getD []) = V; rw [h3, hV]; rfl
        have hrl := begB_len h3
        have hVs : V.size ≤ 100000000 := by rw [hV, blB_size]; rw [bl_size] at hrl; omega
        have hg : guessB (bl s) = ⟨3, blB (textsB r).1, ⟨#[]⟩, ⟨#[]⟩, 0, []⟩ := by unfold guessB; rw [h1, h2, h3]
        have ht := fun W => texts_any V W hVs
        rw [show bl V = r by rw [hV, bl_blB]] at ht
        obtain ⟨A, hA⟩ : ∃ A, A = blB (textsB r).1 := ⟨_, rfl⟩
        obtain ⟨B, hB⟩ : ∃ B, B = blB (textsB r).2 := ⟨_, rfl⟩
        rw [← hA, ← hB] at ht
        rw [← hA] at hg
        have HT := hide ht
        have HG := hide hg
        clear ht hg hV hA hrl hVs hB h1 h2 h3
        go_enter Tryz.func20, Tryz.ntmps20
        go_wp2_with (first | (go_at_call 38; refine Calls.mono (HT.out _) ?_; rintro e W ⟨rfl, hbt⟩; have hkw := HK0.out.keep hbt; have c0 := hkw.cell 0; have f0 := hkw.free 0; have c1 := hkw.cell 1; have f1 := hkw.free 1; have c2 := hkw.cell 2; have f2 := hkw.free 2; have c3 := hkw.cell 3; have f3 := hkw.free 3; have c4 := hkw.cell 4; have f4 := hkw.free 4; have c5 := hkw.cell 5; have f5 := hkw.free 5; have lw := hkw.lt; have HKw := hide hkw; have HBw := hide (HB0.out.trans (hbt.mono HB0.out.size)); clear hkw hbt) | (go_at_call 37; rw [← HW0.out]; refine Calls.mono (HB.out _ _) ?_; rintro e W ⟨rfl, ew⟩; obtain rfl : w0 = W := ew.symm) | (go_at_call 37; refine Calls.mono (HB.out _ _) ?_; rintro e W ⟨rfl, ew⟩; obtain rfl : w0 = W := ew.symm))
        refine bodyPost_ret (v := stpV ⟨3, A, ⟨#[]⟩, ⟨#[]⟩, 0, []⟩ (.slice none 0 0)) (res_guess (put6_bk HKw.out _ _ _ _ _ _) rfl) rfl ?_
        exact ⟨⟨(.slice none 0 0), by rw [HG.out], by rw [HG.out]; exact World.ownsRow_nil _ _ _ _⟩, put6_below HBw.out (Nat.le_refl _) _ _ _ _ _ _⟩
      | none =>
        have g3 : bo ⟨#[102, 114, 101, 101, 32]⟩ = false := by rw [Hbo.out]; show (begB (bl s) [102, 114, 101, 101, 32]).isSome = false; rw [h3]; rfl
        cases h4 : begB (bl s) [112, 114, 101, 115, 115, 32] with
        | some r =>
          have g4 : bo ⟨#[112, 114, 101, 115, 115, 32]⟩ = true := by rw [Hbo.out]; show (begB (bl s) [112, 114, 101, 115, 115, 32]).isSome = true; rw [h4]; rfl
          obtain ⟨V, hV⟩ : ∃ V, V = blB r := ⟨_, rfl⟩
          have e4 : bs ⟨#[112, 114, 101, 115, 115, 32]⟩ = V := by rw [Hbs.out]; show blB ((begB (bl s) [112, 114, 101, 115, 115, 32]).getD []) = V; rw [h4, hV]; rfl
          have hrl := begB_len h4
          have hVs : V.size ≤ 100000000 := by rw [hV, blB_size]; rw [bl_size] at hrl; omega
          have hg : guessB (bl s) = ⟨4, blB (textsB r).1, blB (textsB r).2, ⟨#[]⟩, 0, []⟩ := by unfold guessB; rw [h1, h2, h3, h4]
          have ht := fun W => texts_any V W hVs
          rw [show bl V = r by rw [hV, bl_blB]] at ht
          obtain ⟨A, hA⟩ : ∃ A, A = blB (textsB r).1 := ⟨_, rfl⟩
          obtain ⟨B, hB⟩ : ∃ B, B = blB (textsB r).2 := ⟨_, rfl⟩
          rw [← hA, ← hB] at ht
          rw [← hA, ← hB] at hg
          have HT := hide ht
          have HG := hide hg
          clear ht hg hV hA hrl hVs hB h1 h2 h3 h4
          go_enter Tryz.func20, Tryz.ntmps20
          go_wp2_with (first | (go_at_call 38; refine Calls.mono (HT.out _) ?_; rintro e W ⟨rfl, hbt⟩; have hkw := HK0.out.keep hbt; have c0 := hkw.cell 0; have f0 := hkw.free 0; have c1 := hkw.cell 1; have f1 := hkw.free 1; have c2 := hkw.cell 2; have f2 := hkw.free 2; have c3 := hkw.cell 3; have f3 := hkw.free 3; have c4 := hkw.cell 4; have f4 := hkw.free 4; have c5 := hkw.cell 5; have f5 := hkw.free 5; have lw := hkw.lt; have HKw := hide hkw; have HBw := hide (HB0.out.trans (hbt.mono HB0.out.size)); clear hkw hbt) | (go_at_call 37; rw [← HW0.out]; refine Calls.mono (HB.out _ _) ?_; rintro e W ⟨rfl, ew⟩; obtain rfl : w0 = W := ew.symm) | (go_at_call 37; refine Calls.mono (HB.out _ _) ?_; rintro e W ⟨rfl, ew⟩; obtain rfl : w0 = W := ew.symm))
          refine bodyPost_ret (v := stpV ⟨4, A, B, ⟨#[]⟩, 0, []⟩ (.slice none 0 0)) (res_guess (put6_bk HKw.out _ _ _ _ _ _) rfl) rfl ?_
          exact ⟨⟨(.slice none 0 0), by rw [HG.out], by rw [HG.out]; exact World.ownsRow_nil _ _ _ _⟩, put6_below HBw.out (Nat.le_refl _) _ _ _ _ _ _⟩
        | none =>
          have g4 : bo ⟨#[112, 114, 101, 115, 115, 32]⟩ = false := by rw [Hbo.out]; show (begB (bl s) [112, 114, 101, 115, 115, 32]).isSome = false; rw [h4]; rfl
          cases h6 : begB (bl s) [98, 97, 99, 107, 32] with
          | some r =>
            have g6 : bo ⟨#[98, 97, 99, 107, 32]⟩ = true := by rw [Hbo.out]; show (begB (bl s) [98, 97, 99, 107, 32]).isSome = true; rw [h6]; rfl
            obtain ⟨V, hV⟩ : ∃ V, V = blB r := ⟨_, rfl⟩
            have e6 : bs ⟨#[98, 97, 99, 107, 32]⟩ = V := by rw [Hbs.out]; show blB ((begB (bl s) [98, 97, 99, 107, 32]).getD []) = V; rw [h6, hV]; rfl
            have hrl := begB_len h6
            have hVs : V.size ≤ 100000000 := by rw [hV, blB_size]; rw [bl_size] at hrl; omega
            have hg : guessB (bl s) = ⟨6, blB (textsB r).1, blB (textsB r).2, ⟨#[]⟩, 0, []⟩ := by unfold guessB; rw [h1, h2, h3, h4, h6]
            have ht := fun W => texts_any V W hVs
            rw [show bl V = r by rw [hV, bl_blB]] at ht
            obtain ⟨A, hA⟩ : ∃ A, A = blB (textsB r).1 := ⟨_, rfl⟩
            obtain ⟨B, hB⟩ : ∃ B, B = blB (textsB r).2 := ⟨_, rfl⟩
            rw [← hA, ← hB] at ht
            rw [← hA, ← hB] at hg
            have HT := hide ht
            have HG := hide hg
            clear ht hg hV hA hrl hVs hB h1 h2 h3 h4 h6
            go_enter Tryz.func20, Tryz.ntmps20
            go_wp2_with (first | (go_at_call 38; refine Calls.mono (HT.out _) ?_; rintro e W ⟨rfl, hbt⟩; have hkw := HK0.out.keep hbt; have c0 := hkw.cell 0; have f0 := hkw.free 0; have c1 := hkw.cell 1; have f1 := hkw.free 1; have c2 := hkw.cell 2; have f2 := hkw.free 2; have c3 := hkw.cell 3; have f3 := hkw.free 3; have c4 := hkw.cell 4; have f4 := hkw.free 4; have c5 := hkw.cell 5; have f5 := hkw.free 5; have lw := hkw.lt; have HKw := hide hkw; have HBw := hide (HB0.out.trans (hbt.mono HB0.out.size)); clear hkw hbt) | (go_at_call 37; rw [← HW0.out]; refine Calls.mono (HB.out _ _) ?_; rintro e W ⟨rfl, ew⟩; obtain rfl : w0 = W := ew.symm) | (go_at_call 37; refine Calls.mono (HB.out _ _) ?_; rintro e W ⟨rfl, ew⟩; obtain rfl : w0 = W := ew.symm))
            refine bodyPost_ret (v := stpV ⟨6, A, B, ⟨#[]⟩, 0, []⟩ (.slice none 0 0)) (res_guess (put6_bk HKw.out _ _ _ _ _ _) rfl) rfl ?_
            exact ⟨⟨(.slice none 0 0), by rw [HG.out], by rw [HG.out]; exact World.ownsRow_nil _ _ _ _⟩, put6_below HBw.out (Nat.le_refl _) _ _ _ _ _ _⟩
          | none =>
            have g6 : bo ⟨#[98, 97, 99, 107, 32]⟩ = false := by rw [Hbo.out]; show (begB (bl s) [98, 97, 99, 107, 32]).isSome = false; rw [h6]; rfl
            cases h8 : begB (bl s) [98, 117, 100, 103, 101, 116, 32] with
            | some r =>
              have g8 : bo ⟨#[98, 117, 100, 103, 101, 116, 32]⟩ = true := by rw [Hbo.out]; show (begB (bl s) [98, 117, 100, 103, 101, 116, 32]).isSome = true; rw [h8]; rfl
              obtain ⟨V, hV⟩ : ∃ V, V = blB r := ⟨_, rfl⟩
              have e8 : bs ⟨#[98, 117, 100, 103, 101, 116, 32]⟩ = V := by rw [Hbs.out]; show blB ((begB (bl s) [98, 117, 100, 103, 101, 116, 32]).getD []) = V; rw [h8, hV]; rfl
              have hrl := begB_len h8
              have hVs : V.size ≤ 100000000 := by rw [hV, blB_size]; rw [bl_size] at hrl; omega
              have hg : guessB (bl s) = ⟨8, ⟨#[]⟩, ⟨#[]⟩, ⟨#[]⟩, numberB r, []⟩ := by unfold guessB; rw [h1, h2, h3, h4, h6, h8]
              have ht := fun W => number_any V W hVs
              rw [show bl V = r by rw [hV, bl_blB]] at ht
              obtain ⟨A, hA⟩ : ∃ A, A = numberB r := ⟨_, rfl⟩
              rw [← hA] at ht hg
              have HT := hide ht
              have HG := hide hg
              clear ht hg hV hA hrl hVs h1 h2 h3 h4 h6 h8
              go_enter Tryz.func20, Tryz.ntmps20
              go_wp2_with (first | (go_at_call 39; refine Calls.mono (HT.out _) ?_; rintro e W ⟨rfl, ew⟩; obtain rfl : w0 = W := ew.symm; have hbt := Below.refl w0.heap.size w0; have hkw := HK0.out; have c0 := hkw.cell 0; have f0 := hkw.free 0; have c1 := hkw.cell 1; have f1 := hkw.free 1; have c2 := hkw.cell 2; have f2 := hkw.free 2; have c3 := hkw.cell 3; have f3 := hkw.free 3; have c4 := hkw.cell 4; have f4 := hkw.free 4; have c5 := hkw.cell 5; have f5 := hkw.free 5; have lw := hkw.lt; have HKw := hide hkw; have HBw := hide (HB0.out.trans (hbt.mono HB0.out.size)); clear hkw hbt) | (go_at_call 37; rw [← HW0.out]; refine Calls.mono (HB.out _ _) ?_; rintro e W ⟨rfl, ew⟩; obtain rfl : w0 = W := ew.symm) | (go_at_call 37; refine Calls.mono (HB.out _ _) ?_; rintro e W ⟨rfl, ew⟩; obtain rfl : w0 = W := ew.symm))
              refine bodyPost_ret (v := stpV ⟨8, ⟨#[]⟩, ⟨#[]⟩, ⟨#[]⟩, A, []⟩ (.slice none 0 0)) (res_guess (put6_bk HKw.out _ _ _ _ _ _) rfl) rfl ?_
              exact ⟨⟨(.slice none 0 0), by rw [HG.out], by rw [HG.out]; exact World.ownsRow_nil _ _ _ _⟩, put6_below HBw.out (Nat.le_refl _) _ _ _ _ _ _⟩
            | none =>
              have g8 : bo ⟨#[98, 117, 100, 103, 101, 116, 32]⟩ = false := by rw [Hbo.out]; show (begB (bl s) [98, 117, 100, 103, 101, 116, 32]).isSome = false; rw [h8]; rfl
              cases h9 : begB (bl s) [102, 117, 115, 101, 32] with
              | some r =>
                have g9 : bo ⟨#[102, 117, 115, 101, 32]⟩ = true := by rw [Hbo.out]; show (begB (bl s) [102, 117, 115, 101, 32]).isSome = true; rw [h9]; rfl
                obtain ⟨V, hV⟩ : ∃ V, V = blB r := ⟨_, rfl⟩
                have e9 : bs ⟨#[102, 117, 115, 101, 32]⟩ = V := by rw [Hbs.out]; show blB ((begB (bl s) [102, 117, 115, 101, 32]).getD []) = V; rw [h9, hV]; rfl
                have hrl := begB_len h9
                have hVs : V.size ≤ 100000000 := by rw [hV, blB_size]; rw [bl_size] at hrl; omega
                have hg : guessB (bl s) = ⟨9, ⟨#[]⟩, ⟨#[]⟩, ⟨#[]⟩, numberB r, []⟩ := by unfold guessB; rw [h1, h2, h3, h4, h6, h8, h9]
                have ht := fun W => number_any V W hVs
                rw [show bl V = r by rw [hV, bl_blB]] at ht
                obtain ⟨A, hA⟩ : ∃ A, A = numberB r := ⟨_, rfl⟩
                rw [← hA] at ht hg
                have HT := hide ht
                have HG := hide hg
                clear ht hg hV hA hrl hVs h1 h2 h3 h4 h6 h8 h9
                go_enter Tryz.func20, Tryz.ntmps20
                go_wp2_with (first | (go_at_call 39; refine Calls.mono (HT.out _) ?_; rintro e W ⟨rfl, ew⟩; obtain rfl : w0 = W := ew.symm; have hbt := Below.refl w0.heap.size w0; have hkw := HK0.out; have c0 := hkw.cell 0; have f0 := hkw.free 0; have c1 := hkw.cell 1; have f1 := hkw.free 1; have c2 := hkw.cell 2; have f2 := hkw.free 2; have c3 := hkw.cell 3; have f3 := hkw.free 3; have c4 := hkw.cell 4; have f4 := hkw.free 4; have c5 := hkw.cell 5; have f5 := hkw.free 5; have lw := hkw.lt; have HKw := hide hkw; have HBw := hide (HB0.out.trans (hbt.mono HB0.out.size)); clear hkw hbt) | (go_at_call 37; rw [← HW0.out]; refine Calls.mono (HB.out _ _) ?_; rintro e W ⟨rfl, ew⟩; obtain rfl : w0 = W := ew.symm) | (go_at_call 37; refine Calls.mono (HB.out _ _) ?_; rintro e W ⟨rfl, ew⟩; obtain rfl : w0 = W := ew.symm))
                refine bodyPost_ret (v := stpV ⟨9, ⟨#[]⟩, ⟨#[]⟩, ⟨#[]⟩, A, []⟩ (.slice none 0 0)) (res_guess (put6_bk HKw.out _ _ _ _ _ _) rfl) rfl ?_
                exact ⟨⟨(.slice none 0 0), by rw [HG.out], by rw [HG.out]; exact World.ownsRow_nil _ _ _ _⟩, put6_below HBw.out (Nat.le_refl _) _ _ _ _ _ _⟩
              | none =>
                have g9 : bo ⟨#[102, 117, 115, 101, 32]⟩ = false := by rw [Hbo.out]; show (begB (bl s) [102, 117, 115, 101, 32]).isSome = false; rw [h9]; rfl
                have q5 : (s.toList == [114, 101, 115, 117, 109, 101]) = decide (bl s = [114, 101, 115, 117, 109, 101]) := by rw [Lib.toList_data]; exact beq_dec _ _
                have q7 : (s.toList == [99, 97, 110, 99, 101, 108]) = decide (bl s = [99, 97, 110, 99, 101, 108]) := by rw [Lib.toList_data]; exact beq_dec _ _
                by_cases h5 : bl s = [114, 101, 115, 117, 109, 101]
                · rw [decide_eq_true h5] at q5
                  have HKw := HK0
                  have HBw := HB0
                  have c0 := HKw.out.cell 0
                  have f0 := HKw.out.free 0
                  have c1 := HKw.out.cell 1
                  have f1 := HKw.out.free 1
                  have c2 := HKw.out.cell 2
                  have f2 := HKw.out.free 2
                  have c3 := HKw.out.cell 3
                  have f3 := HKw.out.free 3
                  have c4 := HKw.out.cell 4
                  have f4 := HKw.out.free 4
                  have c5 := HKw.out.cell 5
                  have f5 := HKw.out.free 5
                  have lw := HKw.out.lt
                  have hg : guessB (bl s) = ⟨5, ⟨#[]⟩, ⟨#[]⟩, ⟨#[]⟩, 0, []⟩ := by unfold guessB; rw [h1, h2, h3, h4, h6, h8, h9]; simp only [if_pos h5]; try rfl
                  have HG := hide hg
                  clear hg h1 h2 h3 h4 h6 h8 h9 h5 q7
                  go_enter Tryz.func20, Tryz.ntmps20
                  go_wp2_with (first | (go_at_call 37; rw [← HW0.out]; refine Calls.mono (HB.out _ _) ?_; rintro e W ⟨rfl, ew⟩; obtain rfl : w0 = W := ew.symm) | (go_at_call 37; refine Calls.mono (HB.out _ _) ?_; rintro e W ⟨rfl, ew⟩; obtain rfl : w0 = W := ew.symm))
                  refine bodyPost_ret (v := stpV ⟨5, ⟨#[]⟩, ⟨#[]⟩, ⟨#[]⟩, 0, []⟩ (.slice none 0 0)) (res_guess (put6_bk HKw.out _ _ _ _ _ _) rfl) rfl ?_
                  exact ⟨⟨.slice none 0 0, by rw [HG.out], by rw [HG.out]; exact World.ownsRow_nil _ _ _ _⟩, put6_below HBw.out (Nat.le_refl _) _ _ _ _ _ _⟩
                · rw [decide_eq_false h5] at q5
                  by_cases h7 : bl s = [99, 97, 110, 99, 101, 108]
                  · rw [decide_eq_true h7] at q7
                    have HKw := HK0
                    have HBw := HB0
                    have c0 := HKw.out.cell 0
                    have f0 := HKw.out.free 0
                    have c1 := HKw.out.cell 1
                    have f1 := HKw.out.free 1
                    have c2 := HKw.out.cell 2
                    have f2 := HKw.out.free 2
                    have c3 := HKw.out.cell 3
                    have f3 := HKw.out.free 3
                    have c4 := HKw.out.cell 4
                    have f4 := HKw.out.free 4
                    have c5 := HKw.out.cell 5
                    have f5 := HKw.out.free 5
                    have lw := HKw.out.lt
                    have hg : guessB (bl s) = ⟨7, ⟨#[]⟩, ⟨#[]⟩, ⟨#[]⟩, 0, []⟩ := by unfold guessB; rw [h1, h2, h3, h4, h6, h8, h9]; simp only [if_neg h5, if_pos h7]; try rfl
                    have HG := hide hg
                    clear hg h1 h2 h3 h4 h6 h8 h9 h5 h7
                    go_enter Tryz.func20, Tryz.ntmps20
                    go_wp2_with (first | (go_at_call 37; rw [← HW0.out]; refine Calls.mono (HB.out _ _) ?_; rintro e W ⟨rfl, ew⟩; obtain rfl : w0 = W := ew.symm) | (go_at_call 37; refine Calls.mono (HB.out _ _) ?_; rintro e W ⟨rfl, ew⟩; obtain rfl : w0 = W := ew.symm))
                    refine bodyPost_ret (v := stpV ⟨7, ⟨#[]⟩, ⟨#[]⟩, ⟨#[]⟩, 0, []⟩ (.slice none 0 0)) (res_guess (put6_bk HKw.out _ _ _ _ _ _) rfl) rfl ?_
                    exact ⟨⟨.slice none 0 0, by rw [HG.out], by rw [HG.out]; exact World.ownsRow_nil _ _ _ _⟩, put6_below HBw.out (Nat.le_refl _) _ _ _ _ _ _⟩
                  · rw [decide_eq_false h7] at q7
                    obtain ⟨w1, hw1⟩ : ∃ w1, w1 = w0.alloc (.cells #[.int .u8 10, .string ⟨#[]⟩, .string ⟨#[]⟩, .string ⟨#[]⟩, .int .i64 0, .slice none 0 0] 39) := ⟨_, rfl⟩
                    have hb1 : Below w.heap.size w w1 := by rw [hw1]; exact HB0.out.trans ((ba1 _ _).mono HB0.out.size)
                    have kx1 : Bk w1 w0.heap.size 39 #[.int .u8 10, .string ⟨#[]⟩, .string ⟨#[]⟩, .string ⟨#[]⟩, .int .i64 0, .slice none 0 0] := by rw [hw1]; exact Bk.new _ _ _
                    have kr1 := HK0.out.keep (show Below w0.heap.size w0 w1 by rw [hw1]; exact ba1 _ _)
                    have HW1 := hide hw1
                    have HB1 := hide hb1
                    have HX1 := hide kx1
                    have HR1 := hide kr1
                    have hgw : w.heap.size < w0.heap.size := HK0.out.lt
                    clear hw1 hb1 kx1 kr1
                    cases hc : begB (bl s) [99, 114, 97, 115, 104, 32] with
                    | none =>
                      have gc : bo ⟨#[99, 114, 97, 115, 104, 32]⟩ = false := by rw [Hbo.out]; show (begB (bl s) [99, 114, 97, 115, 104, 32]).isSome = false; rw [hc]; rfl
                      have HKw := HR1
                      have HBw := HB1
                      have c0 := HKw.out.cell 0
                      have f0 := HKw.out.free 0
                      have x0 := HX1.out.cell 0
                      have c1 := HKw.out.cell 1
                      have f1 := HKw.out.free 1
                      have x1 := HX1.out.cell 1
                      have c2 := HKw.out.cell 2
                      have f2 := HKw.out.free 2
                      have x2 := HX1.out.cell 2
                      have c3 := HKw.out.cell 3
                      have f3 := HKw.out.free 3
                      have x3 := HX1.out.cell 3
                      have c4 := HKw.out.cell 4
                      have f4 := HKw.out.free 4
                      have x4 := HX1.out.cell 4
                      have c5 := HKw.out.cell 5
                      have f5 := HKw.out.free 5
                      have x5 := HX1.out.cell 5
                      have lw := HKw.out.lt
                      have lx := HX1.out.lt
                      have hg : guessB (bl s) = ⟨10, ⟨#[]⟩, ⟨#[]⟩, ⟨#[]⟩, 0, []⟩ := by unfold guessB; rw [h1, h2, h3, h4, h6, h8, h9]; simp only [if_neg h5, if_neg h7]; rw [hc]
                      have HG := hide hg
                      clear hg hc h5 h7 h1 h2 h3 h4 h6 h8 h9
                      go_enter Tryz.func20, Tryz.ntmps20
                      go_wp2_with (first | (go_at_call 37; rw [← HW0.out]; refine Calls.mono (HB.out _ _) ?_; rintro e W ⟨rfl, ew⟩; obtain rfl : w0 = W := ew.symm) | (go_at_call 37; rw [← HW1.out]; refine Calls.mono (HB.out _ _) ?_; rintro e W ⟨rfl, ew⟩; obtain rfl : w1 = W := ew.symm) | (go_at_call 37; refine Calls.mono (HB.out _ _) ?_; rintro e W ⟨rfl, ew⟩; obtain rfl : w0 = W := ew.symm))
                      refine bodyPost_ret (v := stpV ⟨10, ⟨#[]⟩, ⟨#[]⟩, ⟨#[]⟩, 0, []⟩ (.slice none 0 0)) (res_guess (put6_bk HKw.out _ _ _ _ _ _) rfl) rfl ?_
                      exact ⟨⟨.slice none 0 0, by rw [HG.out], by rw [HG.out]; exact World.ownsRow_nil _ _ _ _⟩, put6_below HBw.out (Nat.le_refl _) _ _ _ _ _ _⟩
                    | some r =>
                      have gc : bo ⟨#[99, 114, 97, 115, 104, 32]⟩ = true := by rw [Hbo.out]; show (begB (bl s) [99, 114, 97, 115, 104, 32]).isSome = true; rw [hc]; rfl
                      obtain ⟨S, hS⟩ : ∃ S, S = blB r := ⟨_, rfl⟩
                      have ec : bs ⟨#[99, 114, 97, 115, 104, 32]⟩ = S := by rw [Hbs.out]; show blB ((begB (bl s) [99, 114, 97, 115, 104, 32]).getD []) = S; rw [hc, hS]; rfl
                      have hrl := begB_len hc
                      have hSs : S.size ≤ 100000000 := by rw [hS, blB_size]; rw [bl_size] at hrl; omega
                      have hg : guessB (bl s) = ⟨10, ⟨#[]⟩, ⟨#[]⟩, ⟨#[]⟩, 0, kpt r⟩ := by unfold guessB; rw [h1, h2, h3, h4, h6, h8, h9]; simp only [if_neg h5, if_neg h7]; rw [hc]; try rfl
                      have HG := hide hg
                      have HS := hide hS
                      obtain ⟨i0, hi, hz0, hz1, hz2⟩ := info_parts info_bool
                      clear hg hc h5 h7 hrl hS h1 h2 h3 h4 h6 h8 h9
                      go_enter Tryz.func20, Tryz.ntmps20
                      go_upto_region 34 with (first | (go_at_call 37; rw [← HW0.out]; refine Calls.mono (HB.out _ _) ?_; rintro e W ⟨rfl, ew⟩; obtain rfl : w0 = W := ew.symm) | (go_at_call 37; rw [← HW1.out]; refine Calls.mono (HB.out _ _) ?_; rintro e W ⟨rfl, ew⟩; obtain rfl : w1 = W := ew.symm) | (go_at_call 37; refine Calls.mono (HB.out _ _) ?_; rintro e W ⟨rfl, ew⟩; obtain rfl : w0 = W := ew.symm))
                      go_wp2_with fail
                      go_loopw [30] (fun iv wr => ∃ (k : Nat) (V : Value), iv = .int .i64 k ∧ k ≤ S.size ∧ Hid (Bk wr w0.heap.size 39 #[.int .u8 10, .string ⟨#[]⟩, .string ⟨#[]⟩, .string ⟨#[]⟩, .int .i64 0, V]) ∧ Hid (wr.ownsRow w.heap.size 4 1 V k ((kpt (r.take k)).map .bool)) ∧ Hid (Bk wr w.heap.size 39 #[.int .u8 0, .string ⟨#[]⟩, .string ⟨#[]⟩, .string ⟨#[]⟩, .int .i64 0, .slice none 0 0]) ∧ Hid (Below w.heap.size w wr)) (fun iv _ => S.size - (intOf iv).toNat)
                      case atStart => exact ⟨0, _, rfl, by omega, HX1, hide (World.ownsRow_nil _ _ _ _), HR1, HB1⟩
                      case round =>
                        obtain ⟨k, V, rfl, hk, hX, hO, hRz, hB⟩ := hrel
                        have hz := hB.out.size
                        have lx := hX.out.lt
                        have x5 := hX.out.cell 5
                        by_cases hlt : k < S.size
                        · obtain ⟨c, hc⟩ : ∃ c, c = S[k]'hlt := ⟨_, rfl⟩
                          have hcn : (S[k]'hlt).toNat = c.toNat := by rw [hc]
                          have hck : r[k]? = some c := by rw [hc, show r = bl S by rw [HS.out, bl_blB]]; exact bl_at S k hlt
                          have hts : kpt (r.take (k + 1)) = kpt (r.take k) ++ [decide (c = 49)] := by rw [take_snoc hck]; unfold kpt; rw [List.map_append]; rfl
                          have hb49 : ((c.toNat : Int) == 49) = decide (c = 49) := by
                            by_cases h : c = 49
                            · subst h; rfl
                            · rw [decide_eq_false h]; exact byte_ne 49 h
                          obtain ⟨b, hb⟩ : ∃ b, b = decide (c = 49) := ⟨_, rfl⟩
                          rw [← hb] at hts hb49
                          have HTs := hide hts
                          have hoX := fun (X : Obj) => hide (show (wr.drew.alloc X).ownsRow w.heap.size 4 1 V k ((kpt (r.take k)).map .bool) from (show wr.drew.ownsRow w.heap.size 4 1 V k ((kpt (r.take k)).map .bool) from hO.out).alloc X)
                          clear hc hck hts hb
                          go_wp2_with fail
                          go_region_law (refine step_append_lies _ rfl (.tmp 137) (.tmp 142) 37 rfl w.heap.size 4 i0 (.bool false) 1 1 Tryz.underlying37 hi hz0 hz1 hz2 rfl (by decide) V k _ rfl (hoX _).out ⟨_, 0, none⟩ 1 1 [.bool b] rfl rfl (World.news_of_block (Bk.new _ _ _)) (by intro u hu; simp at hu; subst hu; rfl) (by decide) (by unfold maxLen; omega) (by omega) (by simp; omega) _ rfl ?_; intro g4 cap4 w4 hown4 hgr4 _ _; have hX4 := ((show Bk wr.drew w0.heap.size _ _ from hX.out).alloc (.cells #[.bool b] 4)).grown hgr4 (own_ne hO.out hX.out (by decide)); have hR4 := ((show Bk wr.drew w.heap.size _ _ from hRz.out).alloc (.cells #[.bool b] 4)).grown hgr4 (own_ne hO.out hRz.out (by decide)); have hb4 := ((show Below w.heap.size w wr.drew from hB.out.drew).alloc hz (.cells #[.bool b] 4)).grown hgr4 (by simp; omega) (fun g hg => (hO.out.lt g hg).1); have m5 := hX4.cell 5; have fr5 := hX4.free 5; have lx4 := hX4.lt; have HX4 := hide hX4; have HR4 := hide hR4; have HB4 := hide hb4; have HO4 := hide hown4; clear hX4 hR4 hb4 hown4 hgr4)
                          all_goals go_wp2_with fail
                          all_goals exact ⟨⟨k + 1, .slice (some ⟨g4, 0, none⟩) (k + 1) cap4, by simp, by omega, hide (HX4.out.set_ 5 _), hide (own_set (by rw [HTs.out, List.map_append]; exact HO4.out) (fun e => own_ne HO4.out HX4.out (by decide) e.symm) _), hide (Bk.other HR4.out (by omega) 5 _), hide (HB4.out.setCell (p := ⟨w0.heap.size, 5, none⟩) (by show w.heap.size ≤ w0.heap.size; omega) _)⟩, by simp [intOf]; omega⟩
                        · obtain rfl : k = S.size := by omega
                          have hkr : r.take S.size = r := List.take_of_length_le (by rw [HS.out, blB_size]; exact Nat.le_refl _)
                          have hoz := hO.out
                          rw [hkr] at hoz
                          obtain ⟨AZ, cZ, rfl⟩ := own_formk hoz
                          have HOz := hide hoz
                          have HKw := hRz
                          have c0 := HKw.out.cell 0
                          have f0 := HKw.out.free 0
                          have y0 := hX.out.cell 0
                          have c1 := HKw.out.cell 1
                          have f1 := HKw.out.free 1
                          have y1 := hX.out.cell 1
                          have c2 := HKw.out.cell 2
                          have f2 := HKw.out.free 2
                          have y2 := hX.out.cell 2
                          have c3 := HKw.out.cell 3
                          have f3 := HKw.out.free 3
                          have y3 := hX.out.cell 3
                          have c4 := HKw.out.cell 4
                          have f4 := HKw.out.free 4
                          have y4 := hX.out.cell 4
                          have c5 := HKw.out.cell 5
                          have f5 := HKw.out.free 5
                          have y5 := hX.out.cell 5
                          have lw := HKw.out.lt
                          have hkl : (kpt r).length = S.size := by unfold kpt; rw [List.length_map, HS.out, blB_size]
                          have HKl := hide hkl
                          clear hoz hkr hkl
                          go_wp2_with fail
                          refine bodyPost_ret (v := stpV ⟨10, ⟨#[]⟩, ⟨#[]⟩, ⟨#[]⟩, 0, kpt r⟩ (.slice AZ S.size cZ)) (res_guess (put6_bk HKw.out _ _ _ _ _ _) rfl) rfl ?_
                          exact ⟨⟨.slice AZ S.size cZ, by rw [HG.out], by rw [HG.out]; unfold KpO; rw [HKl.out]; exact own_put6 HOz.out (fun e => own_ne HOz.out hRz.out (by decide) e.symm) _ _ _ _ _ _⟩, put6_below hB.out (Nat.le_refl _) _ _ _ _ _ _⟩
end Go.Proofs.YtahnnebpadbopaaGreatDoor
