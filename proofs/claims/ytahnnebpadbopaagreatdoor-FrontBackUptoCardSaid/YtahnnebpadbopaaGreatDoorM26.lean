/- Lemmas for the row: FrZ, FsA, FsA1, FsA2. -/
import Derived.Test.YtahnnebpadbopaaGreatDoorM25
import Derived.Maps.OwnOps
import Derived.Maps.Views
set_option linter.unusedVariables false
/- Walk: front.kind. -/
namespace Go.Proofs.YtahnnebpadbopaaGreatDoor
open Go.RowKit Go.Maps

/-- The map of verbs, behind some rounds. -/
def kmap : Nat → DataW Unit
  | 0 => .map []
  | j + 1 => (kmap j).put (.string (verbB (j + 1))) (.lit (.int .u8 ((j + 1 : Nat) : Int)))
def kindU (w : List UInt8) : Nat → Nat
  | 0 => 0
  | j + 1 => if verbB (j + 1) = w then j + 1 else kindU w j
theorem kmap_is (j : Nat) : IsMap (kmap j) := by
  induction j with
  | zero => exact ⟨_, rfl⟩
  | succ j ih => obtain ⟨e, he⟩ := ih; exact ⟨_, by unfold kmap; rw [he]; rfl⟩
theorem kmap_at (w : List UInt8) (j : Nat) : (kmap j).atKey (.string w) (.lit (.int .u8 0)) = .lit (.int .u8 (kindU w j : Nat)) := by
  induction j with
  | zero => rfl
  | succ j ih =>
    rw [kmap, kindU]
    by_cases h : verbB (j + 1) = w
    · rw [if_pos h, h, atKey_put_same (kmap_is j) (by trivial)]
    · rw [if_neg h, atKey_put_other (fun e => h (Lit.string.inj e).symm)]
      exact ih
theorem kindU_eq (w : List UInt8) : kindU w 10 = kindB w := by
  by_cases h : ∃ k : Fin 10, verbB (k.val + 1) = w
  · obtain ⟨k, rfl⟩ := h
    revert k
    decide +kernel
  · have h' : ∀ k, k < 10 → ¬ verbB (k + 1) = w := fun k hk e => h ⟨⟨k, hk⟩, e⟩
    have h1 : kindU w 10 = 0 := by simp [kindU, h' 0, h' 1, h' 2, h' 3, h' 4, h' 5, h' 6, h' 7, h' 8, h' 9]
    rw [h1]
    unfold kindB
    rw [List.find?_eq_none.2]
    · rfl
    · intro x hx
      obtain ⟨k, hk, rfl⟩ := List.mem_map.1 hx
      simpa using h' k (List.mem_range.1 hk)
theorem slaw : Keyed Tryz.prog 9 := string_keyed Tryz.underlying9
theorem zero_kind (w : World) : (zeroValue 36).run Tryz.prog w = .ok (.int .u8 0) w := by kernel_rfl
set_option maxRecDepth 100000 in
set_option maxHeartbeats 8000000 in
theorem kind_any (s : ByteArray) (w : World) (hs : s.size ≤ 100000000) (hL : Lay w) :
    Calls Tryz.prog 55 #[.string s] w fun e w' => e = .returned (.int .u8 (kindB (bl s) : Nat)) ∧ Below w.heap.size w w' := by
  have hmm := @run_makeMap Tryz.prog
  have HL := hide hL
  clear hL
  go_enter Tryz.func55, Tryz.ntmps55
  go_wp2_with fail
  go_loopw [4] (fun kv wr => ∃ k : Nat, kv = .int .u8 (k : Nat) ∧ 1 ≤ k ∧ k ≤ 11 ∧ Hid (wr.ownsMap Tryz.prog 9 (plainElem Tryz.prog 36) w.heap.size (k - 1) (kmap (k - 1))) ∧ Hid (Below w.heap.size w wr)) (fun kv _ => 11 - (intOf kv).toNat)
  case atStart => exact ⟨1, rfl, by omega, by omega, hide (World.ownsMap_made _ _ _ _), hide ((Below.refl _ _).alloc (Nat.le_refl _) _)⟩
  case round =>
    obtain ⟨k, rfl, hk1, hk, hM, hB⟩ := hrel
    have hz := hB.out.size
    by_cases hlt : k < 11
    · have hv := fun W (hW : Lay W) => verb_any k W hlt hW.verb
      have HV := hide hv
      have hki : (k : Int) < 11 := by omega
      have hkey : keyOf Tryz.prog 9 (.string (blB (verbB k))) = some (.string (verbB k)) := Go.WideMaps.keyOf_string_mk Tryz.underlying9 (by have := verb_len k; rw [blB_size]; unfold maxLen; omega)
      obtain ⟨j, rfl⟩ : ∃ j, k = j + 1 := ⟨k - 1, by omega⟩
      have hw1 : IntKind.u8.wrap (((j + 1 : Nat) : Int) + 1) = ((j + 2 : Nat) : Int) := IntWalk.u8_in _ (by omega)
      clear hv
      go_wp2_with (first
        | (go_at_call 45; refine Calls.mono (HV.out _ (HL.out.all hB.out)) ?_; rintro e w2 ⟨rfl, rfl⟩)
        | (at_mapUpdate; refine wpList_mapUpdate_own _ rfl _ _ _ 158 rfl 9 36 slaw Tryz.underlying158 _ w.heap.size j (kmap j) rfl hM.out (by unfold maxLen; omega) _ _ (.string (verbB (j + 1))) rfl rfl hkey _ [] (plainElem_int (a := ((j + 1 : Nat) : Int)) Tryz.underlying36 (by unfold Lit.wf; rw [Bool.and_eq_true, decide_eq_true_eq, decide_eq_true_eq]; exact ⟨by show (0 : Int) ≤ _; omega, by show _ ≤ (255 : Int); omega⟩)) ?_; intro w3 hM3 hg3))
      exact ⟨⟨j + 2, by simp; omega, by omega, by omega, hide hM3, hide (hB.out.grown hg3 hz (fun g hg => by cases hg; exact Nat.le_refl _))⟩, by simp [intOf]; omega⟩
    · obtain rfl : k = 11 := by omega
      have hkey : keyOf Tryz.prog 9 (.string s) = some (.string (bl s)) := Go.WideMaps.keyOf_string_mk Tryz.underlying9 (by unfold maxLen; omega)
      have hM' := hide (show wr.ownsMap Tryz.prog 9 (plainElem Tryz.prog 36) w.heap.size 10 (kmap 10) from hM.out)
      go_wp2_with (at_lookup; refine wpList_lookup_own_int _ rfl _ _ 158 rfl 9 36 .u8 slaw Tryz.underlying158 Tryz.underlying36 (zero_kind _) w.heap.size 10 (kmap 10) rfl hM'.out _ (.string (bl s)) rfl hkey ?_; intro c hat hwc)
      go_ret
      rw [kmap_at, kindU_eq] at hat
      have hc : c = (kindB (bl s) : Nat) := by injection hat with h; injection h with _ h2; exact h2.symm
      exact ⟨by rw [← hc]; rfl, hB.out⟩
end Go.Proofs.YtahnnebpadbopaaGreatDoor
/- Walk: front.step. -/
namespace Go.Proofs.YtahnnebpadbopaaGreatDoor
open Go.RowKit

theorem bl_extract (s : ByteArray) (i j : Nat) : bl (s.extract i j) = ((bl s).take j).drop i := by
  unfold bl
  rw [ByteArray.data_extract, Array.toList_extract]
  simp [List.extract, List.drop_take]
theorem space_idx (l : List UInt8) : (Lib.indexByte l 32 = -1 ∧ spaceI l = l.length) ∨ ∃ k : Nat, Lib.indexByte l 32 = (k : Int) ∧ spaceI l = k ∧ k < l.length := by
  have hge := Lib.indexByte_ge l 32
  unfold spaceI
  by_cases hm : Lib.indexByte l 32 = -1
  · left
    refine ⟨hm, ?_⟩
    rw [List.findIdx?_eq_none_iff.2 (fun x hx => by
      obtain ⟨k, hk⟩ := List.getElem?_of_mem hx
      have := Lib.indexByte_none hm k
      rw [decide_eq_false]
      intro e
      rw [e] at hk
      exact this hk)]
    rfl
  · right
    obtain ⟨k, hk⟩ : ∃ k : Nat, Lib.indexByte l 32 = (k : Int) := ⟨(Lib.indexByte l 32).toNat, by omega⟩
    obtain ⟨h1, h2⟩ := Lib.indexByte_some hk
    have hkl : k < l.length := (List.getElem?_eq_some_iff.1 h1).1
    refine ⟨k, hk, ?_, hkl⟩
    rw [(List.findIdx?_eq_some_iff_getElem (i := k)).2 ⟨hkl, ?_, fun j hj => ?_⟩]
    · rfl
    · rw [List.getElem?_eq_getElem hkl] at h1
      rw [Option.some.inj h1]; rfl
    · have := h2 j hj
      rw [List.getElem?_eq_getElem (by omega)] at this
      simpa using fun e => this (by rw [e])
theorem space_le (l : List UInt8) : spaceI l ≤ l.length := by
  rcases space_idx l with ⟨_, h⟩ | ⟨k, _, h, hk⟩ <;> omega
theorem kindB_le (l : List UInt8) : kindB l ≤ 10 := by
  by_cases h : kindB l = 0
  · omega
  · exact (kind_some (w := l) rfl h).2.1
theorem Bk.other {w : World} {g gx : Nat} {t : TypeId} {cs : Array Value} (h : Bk w g t cs) (hne : g ≠ gx) (i : Nat) (u : Value) : Bk (w.setCell ⟨gx, i, none⟩ u) g t cs :=
  h.fr ((Fr.refl (fun k => k = gx) w).setCell (p := ⟨gx, i, none⟩) (.inl rfl) u) hne
theorem text_len (q : List UInt8 × Bool) : (rdText q).2.1.length ≤ q.1.length := by
  have hle := space_len q
  unfold rdText
  cases h : unquoteB (rdSpace q).1 with
  | none => exact Nat.zero_le _
  | some u =>
    obtain ⟨t, rest⟩ := u
    have := unquote_some h
    rw [this, List.length_append] at hle
    show rest.length ≤ _
    omega
/-- A line's reader, a step, and what is to be handed back, in memory. -/
def StAt (w W : World) (gr gx : Nat) (q : List UInt8 × Bool) (cs : Array Value) : Prop :=
  LrAt W gr q ∧ Bk W gx 39 cs ∧ Bk W w.heap.size 39 #[.int .u8 0, .string ⟨#[]⟩, .string ⟨#[]⟩, .string ⟨#[]⟩, .int .i64 0, .slice none 0 0] ∧ Below w.heap.size w W ∧ w.heap.size < gr ∧ gr < gx
theorem StAt.call {w W W' : World} {gr gx : Nat} {q q' : List UInt8 × Bool} {cs : Array Value} (h : StAt w W gr gx q cs) (hf : Fr (fun k => k = gr) W W') (hl : LrAt W' gr q') : StAt w W' gr gx q' cs := by
  obtain ⟨h1, h2, h3, h4, h5, h6⟩ := h
  exact ⟨hl, h2.fr hf (by omega), h3.fr hf (by omega), h4.trans (hf.toBelowB (fun k hk => by subst hk; omega) h4.size), h5, h6⟩
theorem StAt.set {w W : World} {gr gx : Nat} {q : List UInt8 × Bool} {cs : Array Value} (h : StAt w W gr gx q cs) (i : Nat) (u : Value) : StAt w (W.setCell ⟨gx, i, none⟩ u) gr gx q (cs.setIfInBounds i u) := by
  obtain ⟨h1, h2, h3, h4, h5, h6⟩ := h
  exact ⟨Bk.other h1 (by omega) i u, h2.set_ i u, Bk.other h3 (by omega) i u, h4.setCell (p := ⟨gx, i, none⟩) (by show w.heap.size ≤ gx; omega) u, h5, h6⟩
/-- Six cells of a step are stored. -/
def put6 (w : World) (g : Nat) (a0 a1 a2 a3 a4 a5 : Value) : World := (((((w.setCell ⟨g, 0, none⟩ a0).setCell ⟨g, 1, none⟩ a1).setCell ⟨g, 2, none⟩ a2).setCell ⟨g, 3, none⟩ a3).setCell ⟨g, 4, none⟩ a4).setCell ⟨g, 5, none⟩ a5
theorem put6_bk {w : World} {g : Nat} {t : TypeId} {z0 z1 z2 z3 z4 z5 : Value} (h : Bk w g t #[z0, z1, z2, z3, z4, z5]) (a0 a1 a2 a3 a4 a5 : Value) : Bk (put6 w g a0 a1 a2 a3 a4 a5) g t #[a0, a1, a2, a3, a4, a5] :=
  (((((h.set_ 0 a0).set_ 1 a1).set_ 2 a2).set_ 3 a3).set_ 4 a4).set_ 5 a5
theorem put6_below {B : Nat} {w : World} {g : Nat} {W : World} (h : Below B W w) (hg : B ≤ g) (a0 a1 a2 a3 a4 a5 : Value) : Below B W (put6 w g a0 a1 a2 a3 a4 a5) :=
  (((((h.setCell (p := ⟨g, 0, none⟩) hg a0).setCell (p := ⟨g, 1, none⟩) hg a1).setCell (p := ⟨g, 2, none⟩) hg a2).setCell (p := ⟨g, 3, none⟩) hg a3).setCell (p := ⟨g, 4, none⟩) hg a4).setCell (p := ⟨g, 5, none⟩) hg a5
theorem own_put6 {w : World} {g base e size n : Nat} {v : Value} {xs : List Value} (h : w.ownsRow base e size v n xs) (hg : v.ownBlock ≠ some g) (a0 a1 a2 a3 a4 a5 : Value) : (put6 w g a0 a1 a2 a3 a4 a5).ownsRow base e size v n xs :=
  own_set (own_set (own_set (own_set (own_set (own_set h (p := ⟨g, 0, none⟩) hg a0) (p := ⟨g, 1, none⟩) hg a1) (p := ⟨g, 2, none⟩) hg a2) (p := ⟨g, 3, none⟩) hg a3) (p := ⟨g, 4, none⟩) hg a4) (p := ⟨g, 5, none⟩) hg a5
theorem if_done {S : List UInt8} (ok : Bool) {E : Bool} (h : (E = true) = (S = [])) (x : Stp) : (if (S, ok) = (([] : List UInt8), true) then some x else none) = if (ok && E) = true then some x else none := by
  cases ok with
  | false => rw [if_neg (fun e => by cases e)]; rfl
  | true =>
    by_cases hS : S = []
    · rw [if_pos (by rw [hS]), if_pos (by rw [Bool.true_and, h]; exact hS)]
    · rw [if_neg (fun e => hS (Prod.mk.inj e).1), if_neg (by rw [Bool.true_and, h]; exact hS)]
set_option maxRecDepth 100000 in
theorem res_step {W : World} {g : Nat} {c0 c1 c2 c3 c4 c5 : Value} {b : Bool} {tmps : Array Value} (h : Bk W g 39 #[c0, c1, c2, c3, c4, c5]) (h2 : tmps.getD 2 undef = .pointer (some ⟨g, 0, none⟩)) (h3 : tmps.getD 3 undef = .bool b) :
    (results Tryz.f32 tmps).run Tryz.prog W = .ok (.tuple #[.agg #[c0, c1, c2, c3, c4, c5], .bool b]) W := by
  have d0 : W.cell? ⟨g, 0, none⟩ = some c0 := h.cell 0
  have d1 : W.cell? ⟨g, 1, none⟩ = some c1 := h.cell 1
  have d2 : W.cell? ⟨g, 2, none⟩ = some c2 := h.cell 2
  have d3 : W.cell? ⟨g, 3, none⟩ = some c3 := h.cell 3
  have d4 : W.cell? ⟨g, 4, none⟩ = some c4 := h.cell 4
  have d5 : W.cell? ⟨g, 5, none⟩ = some c5 := h.cell 5
  rw [Array.getD_eq_getD_getElem?] at h2 h3
  simp [results, Tryz.results32, go_sem, h2, h3, asAddr, d0, d1, d2, d3, d4, d5]
theorem res_stepD {W : World} {g : Nat} {c0 c1 c2 c3 c4 c5 : Value} {b : Bool} {tmps : Array Value} (h : Bk W g 39 #[c0, c1, c2, c3, c4, c5]) (h2 : tmps.getD 2 undef = .pointer (some ⟨g, 0, none⟩)) (h3 : tmps.getD 3 undef = .bool b) :
    (results Tryz.f32 tmps).run Tryz.prog W.drew = .ok (.tuple #[.agg #[c0, c1, c2, c3, c4, c5], .bool b]) W.drew := res_step (W := W.drew) h h2 h3
theorem own_drew {w : World} {base e size n : Nat} {v : Value} {xs : List Value} (h : w.ownsRow base e size v n xs) : w.drew.ownsRow base e size v n xs := h
end Go.Proofs.YtahnnebpadbopaaGreatDoor
/- Walk: front.step, part 1 (printed by gen_fsa.py). -/
namespace Go.Proofs.YtahnnebpadbopaaGreatDoor
open Go.RowKit

set_option maxRecDepth 100000 in
set_option maxHeartbeats 8000000 in
theorem step_0_0 (s : ByteArray) (w : World) (hs : s.size ≤ 100000000) (hL : Lay w) (hkk : kindB ((bl s).take (spaceI (bl s))) = 0) (hsd : Lib.indexByte (bl s) 32 = -1) :
    Calls Tryz.prog 32 #[.string s] w fun e w' => (∃ (st : Stp) (kv : Value) (b : Bool), e = .returned (.tuple #[stpV st kv, .bool b]) ∧ KpO w' w.heap.size kv st.keep ∧ stepB (bl s) = if b then some st else none) ∧ Below w.heap.size w w' := by
  obtain ⟨a, ha⟩ : ∃ a, a = spaceI (bl s) := ⟨_, rfl⟩
  have hal : a ≤ s.size := by have := space_le (bl s); rw [bl_size] at this; omega
  obtain ⟨A, hA⟩ : ∃ A, A = s.extract a s.size := ⟨_, rfl⟩
  obtain ⟨B, hB⟩ : ∃ B, B = s.extract 0 a := ⟨_, rfl⟩
  have hbA : bl A = (bl s).drop a := by rw [hA, bl_extract, List.take_of_length_le (by rw [bl_size]; exact Nat.le_refl _)]
  have hbB : bl B = (bl s).take a := by rw [hB, bl_extract, List.drop_zero]
  have hAl : A.size ≤ 100000000 := by rw [← bl_size, hbA, List.length_drop, bl_size]; omega
  have hBl : B.size ≤ 100000000 := by rw [← bl_size, hbB, List.length_take, bl_size]; omega
  have hst : stepB (bl s) = stepK (kindB (bl B)) (bl A) := by unfold stepB; rw [hbA, hbB, ha]
  rw [hst]
  have hk10 := kindB_le (bl B)
  have hkd := fun W hW => kind_any B W hBl hW
  obtain ⟨K, hK⟩ : ∃ K, K = kindB (bl B) := ⟨_, rfl⟩
  rw [← hK] at hkd hk10 ⊢
  obtain rfl : K = 0 := by rw [hK, hbB, ha]; exact hkk
  obtain ⟨r, hr⟩ : ∃ r, r = bl A := ⟨_, rfl⟩
  rw [← hr]
  have hAr : A = blB r := by rw [hr, blB_bl]
  have hrl : r.length ≤ 100000000 := by rw [hr, bl_size]; exact hAl
  have HKd := hide hkd
  have HL := hide hL
  have HAr := hide hAr
  have HrL := hide hrl
  have haw : (0 : Int) ≤ (a : Int) := by omega
  have hix : ∀ W, Calls Tryz.prog 53 #[.string s, .int .u8 32] W fun e w' => e = .returned (.int .i64 (-1)) ∧ w' = W := fun W => by
    have := Tryz.strings_IndexByte s 32 W
    rw [show Lib.indexByte s.data.toList ((32 : Int).toNat.toUInt8) = -1 from hsd] at this
    exact this
  obtain rfl : a = s.size := by
    rcases space_idx (bl s) with ⟨h1, h2⟩ | ⟨k, h1, h2, h3⟩
    · rw [ha, h2, bl_size]
    · rw [hsd] at h1; omega
  have HIx := hide hix
  have hAe : s.extract s.size s.size = A := hA.symm
  have hBe : s.extract 0 s.size = B := hB.symm
  have hIw : IntKind.i64.wrap (s.size : Int) = (s.size : Int) := IntWalk.i64_in _ ⟨by omega, by omega⟩
  clear hst hkd hkk hsd hK hr hrl hL hix hAr ha hA hB hbA hbB hAl
  obtain ⟨w0, hw0⟩ : ∃ w0, w0 = w.alloc (.cells #[.int .u8 0, .string ⟨#[]⟩, .string ⟨#[]⟩, .string ⟨#[]⟩, .int .i64 0, .slice none 0 0] 39) := ⟨_, rfl⟩
  have hb0 : Below w.heap.size w w0 := by rw [hw0]; exact ba1 _ _
  have kres : Bk w0 w.heap.size 39 #[.int .u8 0, .string ⟨#[]⟩, .string ⟨#[]⟩, .string ⟨#[]⟩, .int .i64 0, .slice none 0 0] := by rw [hw0]; exact Bk.new _ _ _
  have HW0 := hide hw0
  have HB0 := hide hb0
  have HRes := hide kres
  have hz0 : w0.heap.size = w.heap.size + 1 := by rw [hw0]; simp
  have HZ0 := hide hz0
  clear hw0 hb0 kres hz0
  go_enter Tryz.func32, Tryz.ntmps32
  have hAE : A = ByteArray.empty := by rw [← hAe]; simp
  subst hAE
  go_upto_region 4 with (go_at_call 53; rw [← HW0.out]; refine Calls.mono (HIx.out _) ?_; rintro e w1 ⟨rfl, rfl⟩)
  obtain ⟨w2, hw2⟩ : ∃ w2, w2 = w1.alloc (.cells #[.string ByteArray.empty, .bool true] 115) := ⟨_, rfl⟩
  have HW2 := hide hw2
  have hb2 : Below w.heap.size w w2 := by rw [hw2]; exact HB0.out.trans ((ba1 _ _).mono HB0.out.size)
  have kr2 : Bk w2 w1.heap.size 115 #[.string ByteArray.empty, .bool true] := by rw [hw2]; exact Bk.new _ _ _
  have ks2 := HRes.out.keep (show Below w1.heap.size w1 w2 by rw [hw2]; exact ba1 _ _)
  have HB2 := hide hb2
  have HK2 := hide kr2
  have HS2 := hide ks2
  clear hw2 hb2 kr2 ks2
  go_upto_region 6 with (go_at_call 55; rw [← HW2.out]; refine Calls.mono (HKd.out _ (HL.out.all HB2.out)) ?_; rintro e w3 ⟨rfl, hb3⟩; have HB3 := hide hb3; clear hb3)
  obtain ⟨W, hW⟩ : ∃ W, W = w3.alloc (.cells #[.int .u8 0, .string ⟨#[]⟩, .string ⟨#[]⟩, .string ⟨#[]⟩, .int .i64 0, .slice none 0 0] 39) := ⟨_, rfl⟩
  rw [← hW]
  have hst : StAt w W w1.heap.size w3.heap.size (r, true) #[.int .u8 0, .string ⟨#[]⟩, .string ⟨#[]⟩, .string ⟨#[]⟩, .int .i64 0, .slice none 0 0] := by
    have h3 := HB3.out.trans (show Below w2.heap.size w3 W by rw [hW]; exact (ba1 _ _).mono HB3.out.size)
    have hkw : Bk W w3.heap.size 39 #[.int .u8 0, .string ⟨#[]⟩, .string ⟨#[]⟩, .string ⟨#[]⟩, .int .i64 0, .slice none 0 0] := by rw [hW]; exact Bk.new _ _ _
    have hl : LrAt W w1.heap.size (r, true) := by unfold LrAt; rw [← HAr.out]; exact HK2.out.keep h3
    exact ⟨hl, hkw, HS2.out.keep h3, HB2.out.trans (h3.mono HB2.out.size), by rw [HZ0.out]; omega, Nat.lt_of_lt_of_le HK2.out.lt HB3.out.size⟩
  obtain ⟨gr, hgr⟩ : ∃ gr, gr = w1.heap.size := ⟨_, rfl⟩
  obtain ⟨gx, hgx⟩ : ∃ gx, gx = w3.heap.size := ⟨_, rfl⟩
  rw [← hgr, ← hgx] at hst
  rw [← hgr, ← hgx]
  clear hW HB3 HB2 HK2 HS2 HW2 HW0 HB0 HRes HKd HIx HZ0 hAe hBe hIw haw hal hgr hgx HAr
  clear hk10
  have HS := hide hst
  obtain ⟨lr0, x0, rs0, hb0, hlt1, hlt2⟩ := hst
  have y0 := x0.cell 0
  have lx := x0.lt
  clear lr0 x0 rs0 hb0
  have rs0 := HS.out.2.2.1
  have lrs := rs0.lt
  have fr0 := rs0.free 0
  have rc0 := rs0.cell 0
  have fr1 := rs0.free 1
  have rc1 := rs0.cell 1
  have fr2 := rs0.free 2
  have rc2 := rs0.cell 2
  have fr3 := rs0.free 3
  have rc3 := rs0.cell 3
  have fr4 := rs0.free 4
  have rc4 := rs0.cell 4
  have fr5 := rs0.free 5
  have rc5 := rs0.cell 5
  have HRs0 := hide rs0
  clear rs0 HrL
  go_wp2_with fail
  refine bodyPost_ret (v := .tuple #[stpV noStp (.slice none 0 0), .bool false]) (res_step (put6_bk HRs0.out _ _ _ _ _ _) rfl rfl) rfl ?_
  exact ⟨⟨noStp, _, false, rfl, World.ownsRow_nil _ _ _ _, rfl⟩, put6_below HS.out.2.2.2.1 (Nat.le_refl _) _ _ _ _ _ _⟩
set_option maxRecDepth 100000 in
set_option maxHeartbeats 8000000 in
theorem step_0_1 (s : ByteArray) (w : World) (hs : s.size ≤ 100000000) (hL : Lay w) (hkk : kindB ((bl s).take (spaceI (bl s))) = 1) (hsd : Lib.indexByte (bl s) 32 = -1) :
    Calls Tryz.prog 32 #[.string s] w fun e w' => (∃ (st : Stp) (kv : Value) (b : Bool), e = .returned (.tuple #[stpV st kv, .bool b]) ∧ KpO w' w.heap.size kv st.keep ∧ stepB (bl s) = if b then some st else none) ∧ Below w.heap.size w w' := by
  obtain ⟨a, ha⟩ : ∃ a, a = spaceI (bl s) := ⟨_, rfl⟩
  have hal : a ≤ s.size := by have := space_le (bl s); rw [bl_size] at this; omega
  obtain ⟨A, hA⟩ : ∃ A, A = s.extract a s.size := ⟨_, rfl⟩
  obtain ⟨B, hB⟩ : ∃ B, B = s.extract 0 a := ⟨_, rfl⟩
  have hbA : bl A = (bl s).drop a := by rw [hA, bl_extract, List.take_of_length_le (by rw [bl_size]; exact Nat.le_refl _)]
  have hbB : bl B = (bl s).take a := by rw [hB, bl_extract, List.drop_zero]
  have hAl : A.size ≤ 100000000 := by rw [← bl_size, hbA, List.length_drop, bl_size]; omega
  have hBl : B.size ≤ 100000000 := by rw [← bl_size, hbB, List.length_take, bl_size]; omega
  have hst : stepB (bl s) = stepK (kindB (bl B)) (bl A) := by unfold stepB; rw [hbA, hbB, ha]
  rw [hst]
  have hk10 := kindB_le (bl B)
  have hkd := fun W hW => kind_any B W hBl hW
  obtain ⟨K, hK⟩ : ∃ K, K = kindB (bl B) := ⟨_, rfl⟩
  rw [← hK] at hkd hk10 ⊢
  obtain rfl : K = 1 := by rw [hK, hbB, ha]; exact hkk
  obtain ⟨r, hr⟩ : ∃ r, r = bl A := ⟨_, rfl⟩
  rw [← hr]
  have hAr : A = blB r := by rw [hr, blB_bl]
  have hrl : r.length ≤ 100000000 := by rw [hr, bl_size]; exact hAl
  have HKd := hide hkd
  have HL := hide hL
  have HAr := hide hAr
  have HrL := hide hrl
  have haw : (0 : Int) ≤ (a : Int) := by omega
  have hix : ∀ W, Calls Tryz.prog 53 #[.string s, .int .u8 32] W fun e w' => e = .returned (.int .i64 (-1)) ∧ w' = W := fun W => by
    have := Tryz.strings_IndexByte s 32 W
    rw [show Lib.indexByte s.data.toList ((32 : Int).toNat.toUInt8) = -1 from hsd] at this
    exact this
  obtain rfl : a = s.size := by
    rcases space_idx (bl s) with ⟨h1, h2⟩ | ⟨k, h1, h2, h3⟩
    · rw [ha, h2, bl_size]
    · rw [hsd] at h1; omega
  have HIx := hide hix
  have hAe : s.extract s.size s.size = A := hA.symm
  have hBe : s.extract 0 s.size = B := hB.symm
  have hIw : IntKind.i64.wrap (s.size : Int) = (s.size : Int) := IntWalk.i64_in _ ⟨by omega, by omega⟩
  clear hst hkd hkk hsd hK hr hrl hL hix hAr ha hA hB hbA hbB hAl
  obtain ⟨w0, hw0⟩ : ∃ w0, w0 = w.alloc (.cells #[.int .u8 0, .string ⟨#[]⟩, .string ⟨#[]⟩, .string ⟨#[]⟩, .int .i64 0, .slice none 0 0] 39) := ⟨_, rfl⟩
  have hb0 : Below w.heap.size w w0 := by rw [hw0]; exact ba1 _ _
  have kres : Bk w0 w.heap.size 39 #[.int .u8 0, .string ⟨#[]⟩, .string ⟨#[]⟩, .string ⟨#[]⟩, .int .i64 0, .slice none 0 0] := by rw [hw0]; exact Bk.new _ _ _
  have HW0 := hide hw0
  have HB0 := hide hb0
  have HRes := hide kres
  have hz0 : w0.heap.size = w.heap.size + 1 := by rw [hw0]; simp
  have HZ0 := hide hz0
  clear hw0 hb0 kres hz0
  go_enter Tryz.func32, Tryz.ntmps32
  have hAE : A = ByteArray.empty := by rw [← hAe]; simp
  subst hAE
  go_upto_region 4 with (go_at_call 53; rw [← HW0.out]; refine Calls.mono (HIx.out _) ?_; rintro e w1 ⟨rfl, rfl⟩)
  obtain ⟨w2, hw2⟩ : ∃ w2, w2 = w1.alloc (.cells #[.string ByteArray.empty, .bool true] 115) := ⟨_, rfl⟩
  have HW2 := hide hw2
  have hb2 : Below w.heap.size w w2 := by rw [hw2]; exact HB0.out.trans ((ba1 _ _).mono HB0.out.size)
  have kr2 : Bk w2 w1.heap.size 115 #[.string ByteArray.empty, .bool true] := by rw [hw2]; exact Bk.new _ _ _
  have ks2 := HRes.out.keep (show Below w1.heap.size w1 w2 by rw [hw2]; exact ba1 _ _)
  have HB2 := hide hb2
  have HK2 := hide kr2
  have HS2 := hide ks2
  clear hw2 hb2 kr2 ks2
  go_upto_region 6 with (go_at_call 55; rw [← HW2.out]; refine Calls.mono (HKd.out _ (HL.out.all HB2.out)) ?_; rintro e w3 ⟨rfl, hb3⟩; have HB3 := hide hb3; clear hb3)
  obtain ⟨W, hW⟩ : ∃ W, W = w3.alloc (.cells #[.int .u8 1, .string ⟨#[]⟩, .string ⟨#[]⟩, .string ⟨#[]⟩, .int .i64 0, .slice none 0 0] 39) := ⟨_, rfl⟩
  rw [← hW]
  have hst : StAt w W w1.heap.size w3.heap.size (r, true) #[.int .u8 1, .string ⟨#[]⟩, .string ⟨#[]⟩, .string ⟨#[]⟩, .int .i64 0, .slice none 0 0] := by
    have h3 := HB3.out.trans (show Below w2.heap.size w3 W by rw [hW]; exact (ba1 _ _).mono HB3.out.size)
    have hkw : Bk W w3.heap.size 39 #[.int .u8 1, .string ⟨#[]⟩, .string ⟨#[]⟩, .string ⟨#[]⟩, .int .i64 0, .slice none 0 0] := by rw [hW]; exact Bk.new _ _ _
    have hl : LrAt W w1.heap.size (r, true) := by unfold LrAt; rw [← HAr.out]; exact HK2.out.keep h3
    exact ⟨hl, hkw, HS2.out.keep h3, HB2.out.trans (h3.mono HB2.out.size), by rw [HZ0.out]; omega, Nat.lt_of_lt_of_le HK2.out.lt HB3.out.size⟩
  obtain ⟨gr, hgr⟩ : ∃ gr, gr = w1.heap.size := ⟨_, rfl⟩
  obtain ⟨gx, hgx⟩ : ∃ gx, gx = w3.heap.size := ⟨_, rfl⟩
  rw [← hgr, ← hgx] at hst
  rw [← hgr, ← hgx]
  clear hW HB3 HB2 HK2 HS2 HW2 HW0 HB0 HRes HKd HIx HZ0 hAe hBe hIw haw hal hgr hgx HAr
  clear hk10
  have HS := hide hst
  obtain ⟨lr0, x0, rs0, hb0, hlt1, hlt2⟩ := hst
  have y0 := x0.cell 0
  have lx := x0.lt
  clear lr0 x0 rs0 hb0
  obtain ⟨T1, hT1⟩ : ∃ T, T = rdText (r, true) := ⟨_, rfl⟩
  have cT1 := fun W (h : LrAt W gr (r, true)) => rtext_any gr (r, true) W h HrL.out
  rw [← hT1] at cT1
  obtain ⟨VT1, hVT1⟩ : ∃ V, V = blB T1.1 := ⟨_, rfl⟩
  rw [← hVT1] at cT1
  have hlen1 : T1.2.1.length ≤ 100000000 := by rw [hT1]; exact Nat.le_trans (text_len _) HrL.out
  have HVT1 := hide hVT1
  clear hVT1
  have HCT1 := hide cT1
  have HT1 := hide hT1
  clear cT1 hT1
  go_upto_region 11 with (go_at_call 56; refine Calls.mono (HCT1.out _ HS.out.1) ?_; rintro e w5 ⟨rfl, hl, hf⟩; have HS5 := hide (StAt.call HS.out hf hl); have x5 := HS5.out.2.1; have fz := x5.free 1; have cz := x5.cell 1; have lz := x5.lt; clear hl hf x5)
  obtain ⟨W0, hW0⟩ : ∃ W', W' = w5.setCell ⟨gx, 1, none⟩ (.string VT1) := ⟨_, rfl⟩
  rw [← hW0]
  have hs0 := StAt.set HS5.out 1 (.string VT1)
  rw [← hW0] at hs0
  have HS := hide hs0
  clear hW0 hs0 fz cz lz HS5
  obtain ⟨T2, hT2⟩ : ∃ T, T = rdText T1.2 := ⟨_, rfl⟩
  have cT2 := fun W (h : LrAt W gr T1.2) => rtext_any gr T1.2 W h hlen1
  rw [← hT2] at cT2
  obtain ⟨VT2, hVT2⟩ : ∃ V, V = blB T2.1 := ⟨_, rfl⟩
  rw [← hVT2] at cT2
  have HVT2 := hide hVT2
  clear hVT2
  have HCT2 := hide cT2
  have HT2 := hide hT2
  clear cT2 hT2
  go_upto_region 24 with (go_at_call 56; refine Calls.mono (HCT2.out _ HS.out.1) ?_; rintro e w5 ⟨rfl, hl, hf⟩; have HS5 := hide (StAt.call HS.out hf hl); have x5 := HS5.out.2.1; have fz := x5.free 3; have cz := x5.cell 3; have lz := x5.lt; clear hl hf x5)
  obtain ⟨W1, hW1⟩ : ∃ W', W' = w5.setCell ⟨gx, 3, none⟩ (.string VT2) := ⟨_, rfl⟩
  rw [← hW1]
  have hs1 := StAt.set HS5.out 3 (.string VT2)
  rw [← hW1] at hs1
  have HS := hide hs1
  clear hW1 hs1 fz cz lz HS5
  obtain ⟨q, hq⟩ : ∃ q, q = T2.2 := ⟨_, rfl⟩
  have hsf := HS.out
  rw [← hq] at hsf
  obtain ⟨S, ok⟩ := q
  have HQ := hide hq
  obtain ⟨lr, xr, rr, hbW, _, _⟩ := hsf
  have lr' : Bk W1 gr 115 #[.string (blB S), .bool ok] := lr
  obtain ⟨l0, l1⟩ := two_cells lr'
  obtain ⟨E, hE⟩ : ∃ E, E = (blB S).toList.isEmpty := ⟨_, rfl⟩
  have hE' : (blB S).toList.isEmpty = E := hE.symm
  have hES : (E = true) = (S = []) := by rw [hE, isEmpty_str, blB_size, decide_eq_true_eq, List.length_eq_zero_iff]
  have HES := hide hES
  have x0 := xr.cell 0
  have x1 := xr.cell 1
  have x2 := xr.cell 2
  have x3 := xr.cell 3
  have x4 := xr.cell 4
  have x5 := xr.cell 5
  have r0 := rr.cell 0
  have f0 := rr.free 0
  have r1 := rr.cell 1
  have f1 := rr.free 1
  have r2 := rr.cell 2
  have f2 := rr.free 2
  have r3 := rr.cell 3
  have f3 := rr.free 3
  have r4 := rr.cell 4
  have f4 := rr.free 4
  have r5 := rr.cell 5
  have f5 := rr.free 5
  have lw := rr.lt
  have lx := xr.lt
  have HRR := hide rr
  have HBW := hide hbW
  clear hq lr lr' hE hES hbW rr xr
  cases ok with
  | true =>
    go_region
    all_goals go_wp2_with fail
    refine bodyPost_ret (v := .tuple #[stpV ⟨1, VT1, ⟨#[]⟩, VT2, 0, []⟩ (.slice none 0 0), .bool E]) (res_stepD (put6_bk HRR.out _ _ _ _ _ _) rfl rfl) rfl ?_
    have he : stepK 1 r = if (true && E) = true then some ⟨1, VT1, ⟨#[]⟩, VT2, 0, []⟩ else none := by
      rw [show stepK 1 r = (if (rdText (rdText (r, true)).2).2 = (([] : List UInt8), true) then some ⟨1, blB (rdText (r, true)).1, ⟨#[]⟩, blB (rdText (rdText (r, true)).2).1, 0, []⟩ else none) from rfl, ← HT1.out, ← HT2.out, ← HQ.out, ← HVT1.out, ← HVT2.out]
      exact if_done true HES.out _
    exact ⟨⟨⟨1, VT1, ⟨#[]⟩, VT2, 0, []⟩, (.slice none 0 0), E, rfl, World.ownsRow_nil _ _ _ _, he⟩, Below.drew (put6_below HBW.out (Nat.le_refl _) _ _ _ _ _ _)⟩
  | false =>
    go_region
    all_goals go_wp2_with fail
    refine bodyPost_ret (v := .tuple #[stpV ⟨1, VT1, ⟨#[]⟩, VT2, 0, []⟩ (.slice none 0 0), .bool false]) (res_stepD (put6_bk HRR.out _ _ _ _ _ _) rfl rfl) rfl ?_
    have he : stepK 1 r = if (false && E) = true then some ⟨1, VT1, ⟨#[]⟩, VT2, 0, []⟩ else none := by
      rw [show stepK 1 r = (if (rdText (rdText (r, true)).2).2 = (([] : List UInt8), true) then some ⟨1, blB (rdText (r, true)).1, ⟨#[]⟩, blB (rdText (rdText (r, true)).2).1, 0, []⟩ else none) from rfl, ← HT1.out, ← HT2.out, ← HQ.out, ← HVT1.out, ← HVT2.out]
      exact if_done false HES.out _
    exact ⟨⟨⟨1, VT1, ⟨#[]⟩, VT2, 0, []⟩, (.slice none 0 0), false, rfl, World.ownsRow_nil _ _ _ _, he⟩, Below.drew (put6_below HBW.out (Nat.le_refl _) _ _ _ _ _ _)⟩
set_option maxRecDepth 100000 in
set_option maxHeartbeats 8000000 in
theorem step_0_2 (s : ByteArray) (w : World) (hs : s.size ≤ 100000000) (hL : Lay w) (hkk : kindB ((bl s).take (spaceI (bl s))) = 2) (hsd : Lib.indexByte (bl s) 32 = -1) :
    Calls Tryz.prog 32 #[.string s] w fun e w' => (∃ (st : Stp) (kv : Value) (b : Bool), e = .returned (.tuple #[stpV st kv, .bool b]) ∧ KpO w' w.heap.size kv st.keep ∧ stepB (bl s) = if b then some st else none) ∧ Below w.heap.size w w' := by
  obtain ⟨a, ha⟩ : ∃ a, a = spaceI (bl s) := ⟨_, rfl⟩
  have hal : a ≤ s.size := by have := space_le (bl s); rw [bl_size] at this; omega
  obtain ⟨A, hA⟩ : ∃ A, A = s.extract a s.size := ⟨_, rfl⟩
  obtain ⟨B, hB⟩ : ∃ B, B = s.extract 0 a := ⟨_, rfl⟩
  have hbA : bl A = (bl s).drop a := by rw [hA, bl_extract, List.take_of_length_le (by rw [bl_size]; exact Nat.le_refl _)]
  have hbB : bl B = (bl s).take a := by rw [hB, bl_extract, List.drop_zero]
  have hAl : A.size ≤ 100000000 := by rw [← bl_size, hbA, List.length_drop, bl_size]; omega
  have hBl : B.size ≤ 100000000 := by rw [← bl_size, hbB, List.length_take, bl_size]; omega
  have hst : stepB (bl s) = stepK (kindB (bl B)) (bl A) := by unfold stepB; rw [hbA, hbB, ha]
  rw [hst]
  have hk10 := kindB_le (bl B)
  have hkd := fun W hW => kind_any B W hBl hW
  obtain ⟨K, hK⟩ : ∃ K, K = kindB (bl B) := ⟨_, rfl⟩
  rw [← hK] at hkd hk10 ⊢
  obtain rfl : K = 2 := by rw [hK, hbB, ha]; exact hkk
  obtain ⟨r, hr⟩ : ∃ r, r = bl A := ⟨_, rfl⟩
  rw [← hr]
  have hAr : A = blB r := by rw [hr, blB_bl]
  have hrl : r.length ≤ 100000000 := by rw [hr, bl_size]; exact hAl
  have HKd := hide hkd
  have HL := hide hL
  have HAr := hide hAr
  have HrL := hide hrl
  have haw : (0 : Int) ≤ (a : Int) := by omega
  have hix : ∀ W, Calls Tryz.prog 53 #[.string s, .int .u8 32] W fun e w' => e = .returned (.int .i64 (-1)) ∧ w' = W := fun W => by
    have := Tryz.strings_IndexByte s 32 W
    rw [show Lib.indexByte s.data.toList ((32 : Int).toNat.toUInt8) = -1 from hsd] at this
    exact this
  obtain rfl : a = s.size := by
    rcases space_idx (bl s) with ⟨h1, h2⟩ | ⟨k, h1, h2, h3⟩
    · rw [ha, h2, bl_size]
    · rw [hsd] at h1; omega
  have HIx := hide hix
  have hAe : s.extract s.size s.size = A := hA.symm
  have hBe : s.extract 0 s.size = B := hB.symm
  have hIw : IntKind.i64.wrap (s.size : Int) = (s.size : Int) := IntWalk.i64_in _ ⟨by omega, by omega⟩
  clear hst hkd hkk hsd hK hr hrl hL hix hAr ha hA hB hbA hbB hAl
  obtain ⟨w0, hw0⟩ : ∃ w0, w0 = w.alloc (.cells #[.int .u8 0, .string ⟨#[]⟩, .string ⟨#[]⟩, .string ⟨#[]⟩, .int .i64 0, .slice none 0 0] 39) := ⟨_, rfl⟩
  have hb0 : Below w.heap.size w w0 := by rw [hw0]; exact ba1 _ _
  have kres : Bk w0 w.heap.size 39 #[.int .u8 0, .string ⟨#[]⟩, .string ⟨#[]⟩, .string ⟨#[]⟩, .int .i64 0, .slice none 0 0] := by rw [hw0]; exact Bk.new _ _ _
  have HW0 := hide hw0
  have HB0 := hide hb0
  have HRes := hide kres
  have hz0 : w0.heap.size = w.heap.size + 1 := by rw [hw0]; simp
  have HZ0 := hide hz0
  clear hw0 hb0 kres hz0
  go_enter Tryz.func32, Tryz.ntmps32
  have hAE : A = ByteArray.empty := by rw [← hAe]; simp
  subst hAE
  go_upto_region 4 with (go_at_call 53; rw [← HW0.out]; refine Calls.mono (HIx.out _) ?_; rintro e w1 ⟨rfl, rfl⟩)
  obtain ⟨w2, hw2⟩ : ∃ w2, w2 = w1.alloc (.cells #[.string ByteArray.empty, .bool true] 115) := ⟨_, rfl⟩
  have HW2 := hide hw2
  have hb2 : Below w.heap.size w w2 := by rw [hw2]; exact HB0.out.trans ((ba1 _ _).mono HB0.out.size)
  have kr2 : Bk w2 w1.heap.size 115 #[.string ByteArray.empty, .bool true] := by rw [hw2]; exact Bk.new _ _ _
  have ks2 := HRes.out.keep (show Below w1.heap.size w1 w2 by rw [hw2]; exact ba1 _ _)
  have HB2 := hide hb2
  have HK2 := hide kr2
  have HS2 := hide ks2
  clear hw2 hb2 kr2 ks2
  go_upto_region 6 with (go_at_call 55; rw [← HW2.out]; refine Calls.mono (HKd.out _ (HL.out.all HB2.out)) ?_; rintro e w3 ⟨rfl, hb3⟩; have HB3 := hide hb3; clear hb3)
  obtain ⟨W, hW⟩ : ∃ W, W = w3.alloc (.cells #[.int .u8 2, .string ⟨#[]⟩, .string ⟨#[]⟩, .string ⟨#[]⟩, .int .i64 0, .slice none 0 0] 39) := ⟨_, rfl⟩
  rw [← hW]
  have hst : StAt w W w1.heap.size w3.heap.size (r, true) #[.int .u8 2, .string ⟨#[]⟩, .string ⟨#[]⟩, .string ⟨#[]⟩, .int .i64 0, .slice none 0 0] := by
    have h3 := HB3.out.trans (show Below w2.heap.size w3 W by rw [hW]; exact (ba1 _ _).mono HB3.out.size)
    have hkw : Bk W w3.heap.size 39 #[.int .u8 2, .string ⟨#[]⟩, .string ⟨#[]⟩, .string ⟨#[]⟩, .int .i64 0, .slice none 0 0] := by rw [hW]; exact Bk.new _ _ _
    have hl : LrAt W w1.heap.size (r, true) := by unfold LrAt; rw [← HAr.out]; exact HK2.out.keep h3
    exact ⟨hl, hkw, HS2.out.keep h3, HB2.out.trans (h3.mono HB2.out.size), by rw [HZ0.out]; omega, Nat.lt_of_lt_of_le HK2.out.lt HB3.out.size⟩
  obtain ⟨gr, hgr⟩ : ∃ gr, gr = w1.heap.size := ⟨_, rfl⟩
  obtain ⟨gx, hgx⟩ : ∃ gx, gx = w3.heap.size := ⟨_, rfl⟩
  rw [← hgr, ← hgx] at hst
  rw [← hgr, ← hgx]
  clear hW HB3 HB2 HK2 HS2 HW2 HW0 HB0 HRes HKd HIx HZ0 hAe hBe hIw haw hal hgr hgx HAr
  clear hk10
  have HS := hide hst
  obtain ⟨lr0, x0, rs0, hb0, hlt1, hlt2⟩ := hst
  have y0 := x0.cell 0
  have lx := x0.lt
  clear lr0 x0 rs0 hb0
  obtain ⟨T1, hT1⟩ : ∃ T, T = rdText (r, true) := ⟨_, rfl⟩
  have cT1 := fun W (h : LrAt W gr (r, true)) => rtext_any gr (r, true) W h HrL.out
  rw [← hT1] at cT1
  obtain ⟨VT1, hVT1⟩ : ∃ V, V = blB T1.1 := ⟨_, rfl⟩
  rw [← hVT1] at cT1
  have HVT1 := hide hVT1
  clear hVT1
  have HCT1 := hide cT1
  have HT1 := hide hT1
  clear cT1 hT1
  go_upto_region 24 with (go_at_call 56; refine Calls.mono (HCT1.out _ HS.out.1) ?_; rintro e w5 ⟨rfl, hl, hf⟩; have HS5 := hide (StAt.call HS.out hf hl); have x5 := HS5.out.2.1; have fz := x5.free 1; have cz := x5.cell 1; have lz := x5.lt; clear hl hf x5)
  obtain ⟨W0, hW0⟩ : ∃ W', W' = w5.setCell ⟨gx, 1, none⟩ (.string VT1) := ⟨_, rfl⟩
  rw [← hW0]
  have hs0 := StAt.set HS5.out 1 (.string VT1)
  rw [← hW0] at hs0
  have HS := hide hs0
  clear hW0 hs0 fz cz lz HS5
  obtain ⟨q, hq⟩ : ∃ q, q = T1.2 := ⟨_, rfl⟩
  have hsf := HS.out
  rw [← hq] at hsf
  obtain ⟨S, ok⟩ := q
  have HQ := hide hq
  obtain ⟨lr, xr, rr, hbW, _, _⟩ := hsf
  have lr' : Bk W0 gr 115 #[.string (blB S), .bool ok] := lr
  obtain ⟨l0, l1⟩ := two_cells lr'
  obtain ⟨E, hE⟩ : ∃ E, E = (blB S).toList.isEmpty := ⟨_, rfl⟩
  have hE' : (blB S).toList.isEmpty = E := hE.symm
  have hES : (E = true) = (S = []) := by rw [hE, isEmpty_str, blB_size, decide_eq_true_eq, List.length_eq_zero_iff]
  have HES := hide hES
  have x0 := xr.cell 0
  have x1 := xr.cell 1
  have x2 := xr.cell 2
  have x3 := xr.cell 3
  have x4 := xr.cell 4
  have x5 := xr.cell 5
  have r0 := rr.cell 0
  have f0 := rr.free 0
  have r1 := rr.cell 1
  have f1 := rr.free 1
  have r2 := rr.cell 2
  have f2 := rr.free 2
  have r3 := rr.cell 3
  have f3 := rr.free 3
  have r4 := rr.cell 4
  have f4 := rr.free 4
  have r5 := rr.cell 5
  have f5 := rr.free 5
  have lw := rr.lt
  have lx := xr.lt
  have HRR := hide rr
  have HBW := hide hbW
  clear hq lr lr' hE hES hbW rr xr
  cases ok with
  | true =>
    go_region
    all_goals go_wp2_with fail
    refine bodyPost_ret (v := .tuple #[stpV ⟨2, VT1, ⟨#[]⟩, ⟨#[]⟩, 0, []⟩ (.slice none 0 0), .bool E]) (res_stepD (put6_bk HRR.out _ _ _ _ _ _) rfl rfl) rfl ?_
    have he : stepK 2 r = if (true && E) = true then some ⟨2, VT1, ⟨#[]⟩, ⟨#[]⟩, 0, []⟩ else none := by
      rw [show stepK 2 r = (if (rdText (r, true)).2 = (([] : List UInt8), true) then some ⟨2, blB (rdText (r, true)).1, ⟨#[]⟩, ⟨#[]⟩, 0, []⟩ else none) from rfl, ← HT1.out, ← HQ.out, ← HVT1.out]
      exact if_done true HES.out _
    exact ⟨⟨⟨2, VT1, ⟨#[]⟩, ⟨#[]⟩, 0, []⟩, (.slice none 0 0), E, rfl, World.ownsRow_nil _ _ _ _, he⟩, Below.drew (put6_below HBW.out (Nat.le_refl _) _ _ _ _ _ _)⟩
  | false =>
    go_region
    all_goals go_wp2_with fail
    refine bodyPost_ret (v := .tuple #[stpV ⟨2, VT1, ⟨#[]⟩, ⟨#[]⟩, 0, []⟩ (.slice none 0 0), .bool false]) (res_stepD (put6_bk HRR.out _ _ _ _ _ _) rfl rfl) rfl ?_
    have he : stepK 2 r = if (false && E) = true then some ⟨2, VT1, ⟨#[]⟩, ⟨#[]⟩, 0, []⟩ else none := by
      rw [show stepK 2 r = (if (rdText (r, true)).2 = (([] : List UInt8), true) then some ⟨2, blB (rdText (r, true)).1, ⟨#[]⟩, ⟨#[]⟩, 0, []⟩ else none) from rfl, ← HT1.out, ← HQ.out, ← HVT1.out]
      exact if_done false HES.out _
    exact ⟨⟨⟨2, VT1, ⟨#[]⟩, ⟨#[]⟩, 0, []⟩, (.slice none 0 0), false, rfl, World.ownsRow_nil _ _ _ _, he⟩, Below.drew (put6_below HBW.out (Nat.le_refl _) _ _ _ _ _ _)⟩
set_option maxRecDepth 100000 in
set_option maxHeartbeats 8000000 in
theorem step_0_3 (s : ByteArray) (w : World) (hs : s.size ≤ 100000000) (hL : Lay w) (hkk : kindB ((bl s).take (spaceI (bl s))) = 3) (hsd : Lib.indexByte (bl s) 32 = -1) :
    Calls Tryz.prog 32 #[.string s] w fun e w' => (∃ (st : Stp) (kv : Value) (b : Bool), e = .returned (.tuple #[stpV st kv, .bool b]) ∧ KpO w' w.heap.size kv st.keep ∧ stepB (bl s) = if b then some st else none) ∧ Below w.heap.size w w' := by
  obtain ⟨a, ha⟩ : ∃ a, a = spaceI (bl s) := ⟨_, rfl⟩
  have hal : a ≤ s.size := by have := space_le (bl s); rw [bl_size] at this; omega
  obtain ⟨A, hA⟩ : ∃ A, A = s.extract a s.size := ⟨_, rfl⟩
  obtain ⟨B, hB⟩ : ∃ B, B = s.extract 0 a := ⟨_, rfl⟩
  have hbA : bl A = (bl s).drop a := by rw [hA, bl_extract, List.take_of_length_le (by rw [bl_size]; exact Nat.le_refl _)]
  have hbB : bl B = (bl s).take a := by rw [hB, bl_extract, List.drop_zero]
  have hAl : A.size ≤ 100000000 := by rw [← bl_size, hbA, List.length_drop, bl_size]; omega
  have hBl : B.size ≤ 100000000 := by rw [← bl_size, hbB, List.length_take, bl_size]; omega
  have hst : stepB (bl s) = stepK (kindB (bl B)) (bl A) := by unfold stepB; rw [hbA, hbB, ha]
  rw [hst]
  have hk10 := kindB_le (bl B)
  have hkd := fun W hW => kind_any B W hBl hW
  obtain ⟨K, hK⟩ : ∃ K, K = kindB (bl B) := ⟨_, rfl⟩
  rw [← hK] at hkd hk10 ⊢
  obtain rfl : K = 3 := by rw [hK, hbB, ha]; exact hkk
  obtain ⟨r, hr⟩ : ∃ r, r = bl A := ⟨_, rfl⟩
  rw [← hr]
  have hAr : A = blB r := by rw [hr, blB_bl]
  have hrl : r.length ≤ 100000000 := by rw [hr, bl_size]; exact hAl
  have HKd := hide hkd
  have HL := hide hL
  have HAr := hide hAr
  have HrL := hide hrl
  have haw : (0 : Int) ≤ (a : Int) := by omega
  have hix : ∀ W, Calls Tryz.prog 53 #[.string s, .int .u8 32] W fun e w' => e = .returned (.int .i64 (-1)) ∧ w' = W := fun W => by
    have := Tryz.strings_IndexByte s 32 W
    rw [show Lib.indexByte s.data.toList ((32 : Int).toNat.toUInt8) = -1 from hsd] at this
    exact this
  obtain rfl : a = s.size := by
    rcases space_idx (bl s) with ⟨h1, h2⟩ | ⟨k, h1, h2, h3⟩
    · rw [ha, h2, bl_size]
    · rw [hsd] at h1; omega
  have HIx := hide hix
  have hAe : s.extract s.size s.size = A := hA.symm
  have hBe : s.extract 0 s.size = B := hB.symm
  have hIw : IntKind.i64.wrap (s.size : Int) = (s.size : Int) := IntWalk.i64_in _ ⟨by omega, by omega⟩
  clear hst hkd hkk hsd hK hr hrl hL hix hAr ha hA hB hbA hbB hAl
  obtain ⟨w0, hw0⟩ : ∃ w0, w0 = w.alloc (.cells #[.int .u8 0, .string ⟨#[]⟩, .string ⟨#[]⟩, .string ⟨#[]⟩, .int .i64 0, .slice none 0 0] 39) := ⟨_, rfl⟩
  have hb0 : Below w.heap.size w w0 := by rw [hw0]; exact ba1 _ _
  have kres : Bk w0 w.heap.size 39 #[.int .u8 0, .string ⟨#[]⟩, .string ⟨#[]⟩, .string ⟨#[]⟩, .int .i64 0, .slice none 0 0] := by rw [hw0]; exact Bk.new _ _ _
  have HW0 := hide hw0
  have HB0 := hide hb0
  have HRes := hide kres
  have hz0 : w0.heap.size = w.heap.size + 1 := by rw [hw0]; simp
  have HZ0 := hide hz0
  clear hw0 hb0 kres hz0
  go_enter Tryz.func32, Tryz.ntmps32
  have hAE : A = ByteArray.empty := by rw [← hAe]; simp
  subst hAE
  go_upto_region 4 with (go_at_call 53; rw [← HW0.out]; refine Calls.mono (HIx.out _) ?_; rintro e w1 ⟨rfl, rfl⟩)
  obtain ⟨w2, hw2⟩ : ∃ w2, w2 = w1.alloc (.cells #[.string ByteArray.empty, .bool true] 115) := ⟨_, rfl⟩
  have HW2 := hide hw2
  have hb2 : Below w.heap.size w w2 := by rw [hw2]; exact HB0.out.trans ((ba1 _ _).mono HB0.out.size)
  have kr2 : Bk w2 w1.heap.size 115 #[.string ByteArray.empty, .bool true] := by rw [hw2]; exact Bk.new _ _ _
  have ks2 := HRes.out.keep (show Below w1.heap.size w1 w2 by rw [hw2]; exact ba1 _ _)
  have HB2 := hide hb2
  have HK2 := hide kr2
  have HS2 := hide ks2
  clear hw2 hb2 kr2 ks2
  go_upto_region 6 with (go_at_call 55; rw [← HW2.out]; refine Calls.mono (HKd.out _ (HL.out.all HB2.out)) ?_; rintro e w3 ⟨rfl, hb3⟩; have HB3 := hide hb3; clear hb3)
  obtain ⟨W, hW⟩ : ∃ W, W = w3.alloc (.cells #[.int .u8 3, .string ⟨#[]⟩, .string ⟨#[]⟩, .string ⟨#[]⟩, .int .i64 0, .slice none 0 0] 39) := ⟨_, rfl⟩
  rw [← hW]
  have hst : StAt w W w1.heap.size w3.heap.size (r, true) #[.int .u8 3, .string ⟨#[]⟩, .string ⟨#[]⟩, .string ⟨#[]⟩, .int .i64 0, .slice none 0 0] := by
    have h3 := HB3.out.trans (show Below w2.heap.size w3 W by rw [hW]; exact (ba1 _ _).mono HB3.out.size)
    have hkw : Bk W w3.heap.size 39 #[.int .u8 3, .string ⟨#[]⟩, .string ⟨#[]⟩, .string ⟨#[]⟩, .int .i64 0, .slice none 0 0] := by rw [hW]; exact Bk.new _ _ _
    have hl : LrAt W w1.heap.size (r, true) := by unfold LrAt; rw [← HAr.out]; exact HK2.out.keep h3
    exact ⟨hl, hkw, HS2.out.keep h3, HB2.out.trans (h3.mono HB2.out.size), by rw [HZ0.out]; omega, Nat.lt_of_lt_of_le HK2.out.lt HB3.out.size⟩
  obtain ⟨gr, hgr⟩ : ∃ gr, gr = w1.heap.size := ⟨_, rfl⟩
  obtain ⟨gx, hgx⟩ : ∃ gx, gx = w3.heap.size := ⟨_, rfl⟩
  rw [← hgr, ← hgx] at hst
  rw [← hgr, ← hgx]
  clear hW HB3 HB2 HK2 HS2 HW2 HW0 HB0 HRes HKd HIx HZ0 hAe hBe hIw haw hal hgr hgx HAr
  clear hk10
  have HS := hide hst
  obtain ⟨lr0, x0, rs0, hb0, hlt1, hlt2⟩ := hst
  have y0 := x0.cell 0
  have lx := x0.lt
  clear lr0 x0 rs0 hb0
  obtain ⟨T1, hT1⟩ : ∃ T, T = rdText (r, true) := ⟨_, rfl⟩
  have cT1 := fun W (h : LrAt W gr (r, true)) => rtext_any gr (r, true) W h HrL.out
  rw [← hT1] at cT1
  obtain ⟨VT1, hVT1⟩ : ∃ V, V = blB T1.1 := ⟨_, rfl⟩
  rw [← hVT1] at cT1
  have HVT1 := hide hVT1
  clear hVT1
  have HCT1 := hide cT1
  have HT1 := hide hT1
  clear cT1 hT1
  go_upto_region 24 with (go_at_call 56; refine Calls.mono (HCT1.out _ HS.out.1) ?_; rintro e w5 ⟨rfl, hl, hf⟩; have HS5 := hide (StAt.call HS.out hf hl); have x5 := HS5.out.2.1; have fz := x5.free 1; have cz := x5.cell 1; have lz := x5.lt; clear hl hf x5)
  obtain ⟨W0, hW0⟩ : ∃ W', W' = w5.setCell ⟨gx, 1, none⟩ (.string VT1) := ⟨_, rfl⟩
  rw [← hW0]
  have hs0 := StAt.set HS5.out 1 (.string VT1)
  rw [← hW0] at hs0
  have HS := hide hs0
  clear hW0 hs0 fz cz lz HS5
  obtain ⟨q, hq⟩ : ∃ q, q = T1.2 := ⟨_, rfl⟩
  have hsf := HS.out
  rw [← hq] at hsf
  obtain ⟨S, ok⟩ := q
  have HQ := hide hq
  obtain ⟨lr, xr, rr, hbW, _, _⟩ := hsf
  have lr' : Bk W0 gr 115 #[.string (blB S), .bool ok] := lr
  obtain ⟨l0, l1⟩ := two_cells lr'
  obtain ⟨E, hE⟩ : ∃ E, E = (blB S).toList.isEmpty := ⟨_, rfl⟩
  have hE' : (blB S).toList.isEmpty = E := hE.symm
  have hES : (E = true) = (S = []) := by rw [hE, isEmpty_str, blB_size, decide_eq_true_eq, List.length_eq_zero_iff]
  have HES := hide hES
  have x0 := xr.cell 0
  have x1 := xr.cell 1
  have x2 := xr.cell 2
  have x3 := xr.cell 3
  have x4 := xr.cell 4
  have x5 := xr.cell 5
  have r0 := rr.cell 0
  have f0 := rr.free 0
  have r1 := rr.cell 1
  have f1 := rr.free 1
  have r2 := rr.cell 2
  have f2 := rr.free 2
  have r3 := rr.cell 3
  have f3 := rr.free 3
  have r4 := rr.cell 4
  have f4 := rr.free 4
  have r5 := rr.cell 5
  have f5 := rr.free 5
  have lw := rr.lt
  have lx := xr.lt
  have HRR := hide rr
  have HBW := hide hbW
  clear hq lr lr' hE hES hbW rr xr
  cases ok with
  | true =>
    go_region
    all_goals go_wp2_with fail
    refine bodyPost_ret (v := .tuple #[stpV ⟨3, VT1, ⟨#[]⟩, ⟨#[]⟩, 0, []⟩ (.slice none 0 0), .bool E]) (res_stepD (put6_bk HRR.out _ _ _ _ _ _) rfl rfl) rfl ?_
    have he : stepK 3 r = if (true && E) = true then some ⟨3, VT1, ⟨#[]⟩, ⟨#[]⟩, 0, []⟩ else none := by
      rw [show stepK 3 r = (if (rdText (r, true)).2 = (([] : List UInt8), true) then some ⟨3, blB (rdText (r, true)).1, ⟨#[]⟩, ⟨#[]⟩, 0, []⟩ else none) from rfl, ← HT1.out, ← HQ.out, ← HVT1.out]
      exact if_done true HES.out _
    exact ⟨⟨⟨3, VT1, ⟨#[]⟩, ⟨#[]⟩, 0, []⟩, (.slice none 0 0), E, rfl, World.ownsRow_nil _ _ _ _, he⟩, Below.drew (put6_below HBW.out (Nat.le_refl _) _ _ _ _ _ _)⟩
  | false =>
    go_region
    all_goals go_wp2_with fail
    refine bodyPost_ret (v := .tuple #[stpV ⟨3, VT1, ⟨#[]⟩, ⟨#[]⟩, 0, []⟩ (.slice none 0 0), .bool false]) (res_stepD (put6_bk HRR.out _ _ _ _ _ _) rfl rfl) rfl ?_
    have he : stepK 3 r = if (false && E) = true then some ⟨3, VT1, ⟨#[]⟩, ⟨#[]⟩, 0, []⟩ else none := by
      rw [show stepK 3 r = (if (rdText (r, true)).2 = (([] : List UInt8), true) then some ⟨3, blB (rdText (r, true)).1, ⟨#[]⟩, ⟨#[]⟩, 0, []⟩ else none) from rfl, ← HT1.out, ← HQ.out, ← HVT1.out]
      exact if_done false HES.out _
    exact ⟨⟨⟨3, VT1, ⟨#[]⟩, ⟨#[]⟩, 0, []⟩, (.slice none 0 0), false, rfl, World.ownsRow_nil _ _ _ _, he⟩, Below.drew (put6_below HBW.out (Nat.le_refl _) _ _ _ _ _ _)⟩
set_option maxRecDepth 100000 in
set_option maxHeartbeats 8000000 in
theorem step_0_4 (s : ByteArray) (w : World) (hs : s.size ≤ 100000000) (hL : Lay w) (hkk : kindB ((bl s).take (spaceI (bl s))) = 4) (hsd : Lib.indexByte (bl s) 32 = -1) :
    Calls Tryz.prog 32 #[.string s] w fun e w' => (∃ (st : Stp) (kv : Value) (b : Bool), e = .returned (.tuple #[stpV st kv, .bool b]) ∧ KpO w' w.heap.size kv st.keep ∧ stepB (bl s) = if b then some st else none) ∧ Below w.heap.size w w' := by
  obtain ⟨a, ha⟩ : ∃ a, a = spaceI (bl s) := ⟨_, rfl⟩
  have hal : a ≤ s.size := by have := space_le (bl s); rw [bl_size] at this; omega
  obtain ⟨A, hA⟩ : ∃ A, A = s.extract a s.size := ⟨_, rfl⟩
  obtain ⟨B, hB⟩ : ∃ B, B = s.extract 0 a := ⟨_, rfl⟩
  have hbA : bl A = (bl s).drop a := by rw [hA, bl_extract, List.take_of_length_le (by rw [bl_size]; exact Nat.le_refl _)]
  have hbB : bl B = (bl s).take a := by rw [hB, bl_extract, List.drop_zero]
  have hAl : A.size ≤ 100000000 := by rw [← bl_size, hbA, List.length_drop, bl_size]; omega
  have hBl : B.size ≤ 100000000 := by rw [← bl_size, hbB, List.length_take, bl_size]; omega
  have hst : stepB (bl s) = stepK (kindB (bl B)) (bl A) := by unfold stepB; rw [hbA, hbB, ha]
  rw [hst]
  have hk10 := kindB_le (bl B)
  have hkd := fun W hW => kind_any B W hBl hW
  obtain ⟨K, hK⟩ : ∃ K, K = kindB (bl B) := ⟨_, rfl⟩
  rw [← hK] at hkd hk10 ⊢
  obtain rfl : K = 4 := by rw [hK, hbB, ha]; exact hkk
  obtain ⟨r, hr⟩ : ∃ r, r = bl A := ⟨_, rfl⟩
  rw [← hr]
  have hAr : A = blB r := by rw [hr, blB_bl]
  have hrl : r.length ≤ 100000000 := by rw [hr, bl_size]; exact hAl
  have HKd := hide hkd
  have HL := hide hL
  have HAr := hide hAr
  have HrL := hide hrl
  have haw : (0 : Int) ≤ (a : Int) := by omega
  have hix : ∀ W, Calls Tryz.prog 53 #[.string s, .int .u8 32] W fun e w' => e = .returned (.int .i64 (-1)) ∧ w' = W := fun W => by
    have := Tryz.strings_IndexByte s 32 W
    rw [show Lib.indexByte s.data.toList ((32 : Int).toNat.toUInt8) = -1 from hsd] at this
    exact this
  obtain rfl : a = s.size := by
    rcases space_idx (bl s) with ⟨h1, h2⟩ | ⟨k, h1, h2, h3⟩
    · rw [ha, h2, bl_size]
    · rw [hsd] at h1; omega
  have HIx := hide hix
  have hAe : s.extract s.size s.size = A := hA.symm
  have hBe : s.extract 0 s.size = B := hB.symm
  have hIw : IntKind.i64.wrap (s.size : Int) = (s.size : Int) := IntWalk.i64_in _ ⟨by omega, by omega⟩
  clear hst hkd hkk hsd hK hr hrl hL hix hAr ha hA hB hbA hbB hAl
  obtain ⟨w0, hw0⟩ : ∃ w0, w0 = w.alloc (.cells #[.int .u8 0, .string ⟨#[]⟩, .string ⟨#[]⟩, .string ⟨#[]⟩, .int .i64 0, .slice none 0 0] 39) := ⟨_, rfl⟩
  have hb0 : Below w.heap.size w w0 := by rw [hw0]; exact ba1 _ _
  have kres : Bk w0 w.heap.size 39 #[.int .u8 0, .string ⟨#[]⟩, .string ⟨#[]⟩, .string ⟨#[]⟩, .int .i64 0, .slice none 0 0] := by rw [hw0]; exact Bk.new _ _ _
  have HW0 := hide hw0
  have HB0 := hide hb0
  have HRes := hide kres
  have hz0 : w0.heap.size = w.heap.size + 1 := by rw [hw0]; simp
  have HZ0 := hide hz0
  clear hw0 hb0 kres hz0
  go_enter Tryz.func32, Tryz.ntmps32
  have hAE : A = ByteArray.empty := by rw [← hAe]; simp
  subst hAE
  go_upto_region 4 with (go_at_call 53; rw [← HW0.out]; refine Calls.mono (HIx.out _) ?_; rintro e w1 ⟨rfl, rfl⟩)
  obtain ⟨w2, hw2⟩ : ∃ w2, w2 = w1.alloc (.cells #[.string ByteArray.empty, .bool true] 115) := ⟨_, rfl⟩
  have HW2 := hide hw2
  have hb2 : Below w.heap.size w w2 := by rw [hw2]; exact HB0.out.trans ((ba1 _ _).mono HB0.out.size)
  have kr2 : Bk w2 w1.heap.size 115 #[.string ByteArray.empty, .bool true] := by rw [hw2]; exact Bk.new _ _ _
  have ks2 := HRes.out.keep (show Below w1.heap.size w1 w2 by rw [hw2]; exact ba1 _ _)
  have HB2 := hide hb2
  have HK2 := hide kr2
  have HS2 := hide ks2
  clear hw2 hb2 kr2 ks2
  go_upto_region 6 with (go_at_call 55; rw [← HW2.out]; refine Calls.mono (HKd.out _ (HL.out.all HB2.out)) ?_; rintro e w3 ⟨rfl, hb3⟩; have HB3 := hide hb3; clear hb3)
  obtain ⟨W, hW⟩ : ∃ W, W = w3.alloc (.cells #[.int .u8 4, .string ⟨#[]⟩, .string ⟨#[]⟩, .string ⟨#[]⟩, .int .i64 0, .slice none 0 0] 39) := ⟨_, rfl⟩
  rw [← hW]
  have hst : StAt w W w1.heap.size w3.heap.size (r, true) #[.int .u8 4, .string ⟨#[]⟩, .string ⟨#[]⟩, .string ⟨#[]⟩, .int .i64 0, .slice none 0 0] := by
    have h3 := HB3.out.trans (show Below w2.heap.size w3 W by rw [hW]; exact (ba1 _ _).mono HB3.out.size)
    have hkw : Bk W w3.heap.size 39 #[.int .u8 4, .string ⟨#[]⟩, .string ⟨#[]⟩, .string ⟨#[]⟩, .int .i64 0, .slice none 0 0] := by rw [hW]; exact Bk.new _ _ _
    have hl : LrAt W w1.heap.size (r, true) := by unfold LrAt; rw [← HAr.out]; exact HK2.out.keep h3
    exact ⟨hl, hkw, HS2.out.keep h3, HB2.out.trans (h3.mono HB2.out.size), by rw [HZ0.out]; omega, Nat.lt_of_lt_of_le HK2.out.lt HB3.out.size⟩
  obtain ⟨gr, hgr⟩ : ∃ gr, gr = w1.heap.size := ⟨_, rfl⟩
  obtain ⟨gx, hgx⟩ : ∃ gx, gx = w3.heap.size := ⟨_, rfl⟩
  rw [← hgr, ← hgx] at hst
  rw [← hgr, ← hgx]
  clear hW HB3 HB2 HK2 HS2 HW2 HW0 HB0 HRes HKd HIx HZ0 hAe hBe hIw haw hal hgr hgx HAr
  clear hk10
  have HS := hide hst
  obtain ⟨lr0, x0, rs0, hb0, hlt1, hlt2⟩ := hst
  have y0 := x0.cell 0
  have lx := x0.lt
  clear lr0 x0 rs0 hb0
  obtain ⟨T1, hT1⟩ : ∃ T, T = rdText (r, true) := ⟨_, rfl⟩
  have cT1 := fun W (h : LrAt W gr (r, true)) => rtext_any gr (r, true) W h HrL.out
  rw [← hT1] at cT1
  obtain ⟨VT1, hVT1⟩ : ∃ V, V = blB T1.1 := ⟨_, rfl⟩
  rw [← hVT1] at cT1
  have hlen1 : T1.2.1.length ≤ 100000000 := by rw [hT1]; exact Nat.le_trans (text_len _) HrL.out
  have HVT1 := hide hVT1
  clear hVT1
  have HCT1 := hide cT1
  have HT1 := hide hT1
  clear cT1 hT1
  go_upto_region 15 with (go_at_call 56; refine Calls.mono (HCT1.out _ HS.out.1) ?_; rintro e w5 ⟨rfl, hl, hf⟩; have HS5 := hide (StAt.call HS.out hf hl); have x5 := HS5.out.2.1; have fz := x5.free 1; have cz := x5.cell 1; have lz := x5.lt; clear hl hf x5)
  obtain ⟨W0, hW0⟩ : ∃ W', W' = w5.setCell ⟨gx, 1, none⟩ (.string VT1) := ⟨_, rfl⟩
  rw [← hW0]
  have hs0 := StAt.set HS5.out 1 (.string VT1)
  rw [← hW0] at hs0
  have HS := hide hs0
  clear hW0 hs0 fz cz lz HS5
  obtain ⟨T2, hT2⟩ : ∃ T, T = rdText T1.2 := ⟨_, rfl⟩
  have cT2 := fun W (h : LrAt W gr T1.2) => rtext_any gr T1.2 W h hlen1
  rw [← hT2] at cT2
  obtain ⟨VT2, hVT2⟩ : ∃ V, V = blB T2.1 := ⟨_, rfl⟩
  rw [← hVT2] at cT2
  have HVT2 := hide hVT2
  clear hVT2
  have HCT2 := hide cT2
  have HT2 := hide hT2
  clear cT2 hT2
  go_upto_region 24 with (go_at_call 56; refine Calls.mono (HCT2.out _ HS.out.1) ?_; rintro e w5 ⟨rfl, hl, hf⟩; have HS5 := hide (StAt.call HS.out hf hl); have x5 := HS5.out.2.1; have fz := x5.free 2; have cz := x5.cell 2; have lz := x5.lt; clear hl hf x5)
  obtain ⟨W1, hW1⟩ : ∃ W', W' = w5.setCell ⟨gx, 2, none⟩ (.string VT2) := ⟨_, rfl⟩
  rw [← hW1]
  have hs1 := StAt.set HS5.out 2 (.string VT2)
  rw [← hW1] at hs1
  have HS := hide hs1
  clear hW1 hs1 fz cz lz HS5
  obtain ⟨q, hq⟩ : ∃ q, q = T2.2 := ⟨_, rfl⟩
  have hsf := HS.out
  rw [← hq] at hsf
  obtain ⟨S, ok⟩ := q
  have HQ := hide hq
  obtain ⟨lr, xr, rr, hbW, _, _⟩ := hsf
  have lr' : Bk W1 gr 115 #[.string (blB S), .bool ok] := lr
  obtain ⟨l0, l1⟩ := two_cells lr'
  obtain ⟨E, hE⟩ : ∃ E, E = (blB S).toList.isEmpty := ⟨_, rfl⟩
  have hE' : (blB S).toList.isEmpty = E := hE.symm
  have hES : (E = true) = (S = []) := by rw [hE, isEmpty_str, blB_size, decide_eq_true_eq, List.length_eq_zero_iff]
  have HES := hide hES
  have x0 := xr.cell 0
  have x1 := xr.cell 1
  have x2 := xr.cell 2
  have x3 := xr.cell 3
  have x4 := xr.cell 4
  have x5 := xr.cell 5
  have r0 := rr.cell 0
  have f0 := rr.free 0
  have r1 := rr.cell 1
  have f1 := rr.free 1
  have r2 := rr.cell 2
  have f2 := rr.free 2
  have r3 := rr.cell 3
  have f3 := rr.free 3
  have r4 := rr.cell 4
  have f4 := rr.free 4
  have r5 := rr.cell 5
  have f5 := rr.free 5
  have lw := rr.lt
  have lx := xr.lt
  have HRR := hide rr
  have HBW := hide hbW
  clear hq lr lr' hE hES hbW rr xr
  cases ok with
  | true =>
    go_region
    all_goals go_wp2_with fail
    refine bodyPost_ret (v := .tuple #[stpV ⟨4, VT1, VT2, ⟨#[]⟩, 0, []⟩ (.slice none 0 0), .bool E]) (res_stepD (put6_bk HRR.out _ _ _ _ _ _) rfl rfl) rfl ?_
    have he : stepK 4 r = if (true && E) = true then some ⟨4, VT1, VT2, ⟨#[]⟩, 0, []⟩ else none := by
      rw [show stepK 4 r = (if (rdText (rdText (r, true)).2).2 = (([] : List UInt8), true) then some ⟨4, blB (rdText (r, true)).1, blB (rdText (rdText (r, true)).2).1, ⟨#[]⟩, 0, []⟩ else none) from rfl, ← HT1.out, ← HT2.out, ← HQ.out, ← HVT1.out, ← HVT2.out]
      exact if_done true HES.out _
    exact ⟨⟨⟨4, VT1, VT2, ⟨#[]⟩, 0, []⟩, (.slice none 0 0), E, rfl, World.ownsRow_nil _ _ _ _, he⟩, Below.drew (put6_below HBW.out (Nat.le_refl _) _ _ _ _ _ _)⟩
  | false =>
    go_region
    all_goals go_wp2_with fail
    refine bodyPost_ret (v := .tuple #[stpV ⟨4, VT1, VT2, ⟨#[]⟩, 0, []⟩ (.slice none 0 0), .bool false]) (res_stepD (put6_bk HRR.out _ _ _ _ _ _) rfl rfl) rfl ?_
    have he : stepK 4 r = if (false && E) = true then some ⟨4, VT1, VT2, ⟨#[]⟩, 0, []⟩ else none := by
      rw [show stepK 4 r = (if (rdText (rdText (r, true)).2).2 = (([] : List UInt8), true) then some ⟨4, blB (rdText (r, true)).1, blB (rdText (rdText (r, true)).2).1, ⟨#[]⟩, 0, []⟩ else none) from rfl, ← HT1.out, ← HT2.out, ← HQ.out, ← HVT1.out, ← HVT2.out]
      exact if_done false HES.out _
    exact ⟨⟨⟨4, VT1, VT2, ⟨#[]⟩, 0, []⟩, (.slice none 0 0), false, rfl, World.ownsRow_nil _ _ _ _, he⟩, Below.drew (put6_below HBW.out (Nat.le_refl _) _ _ _ _ _ _)⟩
set_option maxRecDepth 100000 in
set_option maxHeartbeats 8000000 in
theorem step_0_5 (s : ByteArray) (w : World) (hs : s.size ≤ 100000000) (hL : Lay w) (hkk : kindB ((bl s).take (spaceI (bl s))) = 5) (hsd : Lib.indexByte (bl s) 32 = -1) :
    Calls Tryz.prog 32 #[.string s] w fun e w' => (∃ (st : Stp) (kv : Value) (b : Bool), e = .returned (.tuple #[stpV st kv, .bool b]) ∧ KpO w' w.heap.size kv st.keep ∧ stepB (bl s) = if b then some st else none) ∧ Below w.heap.size w w' := by
  obtain ⟨a, ha⟩ : ∃ a, a = spaceI (bl s) := ⟨_, rfl⟩
  have hal : a ≤ s.size := by have := space_le (bl s); rw [bl_size] at this; omega
  obtain ⟨A, hA⟩ : ∃ A, A = s.extract a s.size := ⟨_, rfl⟩
  obtain ⟨B, hB⟩ : ∃ B, B = s.extract 0 a := ⟨_, rfl⟩
  have hbA : bl A = (bl s).drop a := by rw [hA, bl_extract, List.take_of_length_le (by rw [bl_size]; exact Nat.le_refl _)]
  have hbB : bl B = (bl s).take a := by rw [hB, bl_extract, List.drop_zero]
  have hAl : A.size ≤ 100000000 := by rw [← bl_size, hbA, List.length_drop, bl_size]; omega
  have hBl : B.size ≤ 100000000 := by rw [← bl_size, hbB, List.length_take, bl_size]; omega
  have hst : stepB (bl s) = stepK (kindB (bl B)) (bl A) := by unfold stepB; rw [hbA, hbB, ha]
  rw [hst]
  have hk10 := kindB_le (bl B)
  have hkd := fun W hW => kind_any B W hBl hW
  obtain ⟨K, hK⟩ : ∃ K, K = kindB (bl B) := ⟨_, rfl⟩
  rw [← hK] at hkd hk10 ⊢
  obtain rfl : K = 5 := by rw [hK, hbB, ha]; exact hkk
  obtain ⟨r, hr⟩ : ∃ r, r = bl A := ⟨_, rfl⟩
  rw [← hr]
  have hAr : A = blB r := by rw [hr, blB_bl]
  have hrl : r.length ≤ 100000000 := by rw [hr, bl_size]; exact hAl
  have HKd := hide hkd
  have HL := hide hL
  have HAr := hide hAr
  have HrL := hide hrl
  have haw : (0 : Int) ≤ (a : Int) := by omega
  have hix : ∀ W, Calls Tryz.prog 53 #[.string s, .int .u8 32] W fun e w' => e = .returned (.int .i64 (-1)) ∧ w' = W := fun W => by
    have := Tryz.strings_IndexByte s 32 W
    rw [show Lib.indexByte s.data.toList ((32 : Int).toNat.toUInt8) = -1 from hsd] at this
    exact this
  obtain rfl : a = s.size := by
    rcases space_idx (bl s) with ⟨h1, h2⟩ | ⟨k, h1, h2, h3⟩
    · rw [ha, h2, bl_size]
    · rw [hsd] at h1; omega
  have HIx := hide hix
  have hAe : s.extract s.size s.size = A := hA.symm
  have hBe : s.extract 0 s.size = B := hB.symm
  have hIw : IntKind.i64.wrap (s.size : Int) = (s.size : Int) := IntWalk.i64_in _ ⟨by omega, by omega⟩
  clear hst hkd hkk hsd hK hr hrl hL hix hAr ha hA hB hbA hbB hAl
  obtain ⟨w0, hw0⟩ : ∃ w0, w0 = w.alloc (.cells #[.int .u8 0, .string ⟨#[]⟩, .string ⟨#[]⟩, .string ⟨#[]⟩, .int .i64 0, .slice none 0 0] 39) := ⟨_, rfl⟩
  have hb0 : Below w.heap.size w w0 := by rw [hw0]; exact ba1 _ _
  have kres : Bk w0 w.heap.size 39 #[.int .u8 0, .string ⟨#[]⟩, .string ⟨#[]⟩, .string ⟨#[]⟩, .int .i64 0, .slice none 0 0] := by rw [hw0]; exact Bk.new _ _ _
  have HW0 := hide hw0
  have HB0 := hide hb0
  have HRes := hide kres
  have hz0 : w0.heap.size = w.heap.size + 1 := by rw [hw0]; simp
  have HZ0 := hide hz0
  clear hw0 hb0 kres hz0
  go_enter Tryz.func32, Tryz.ntmps32
  have hAE : A = ByteArray.empty := by rw [← hAe]; simp
  subst hAE
  go_upto_region 4 with (go_at_call 53; rw [← HW0.out]; refine Calls.mono (HIx.out _) ?_; rintro e w1 ⟨rfl, rfl⟩)
  obtain ⟨w2, hw2⟩ : ∃ w2, w2 = w1.alloc (.cells #[.string ByteArray.empty, .bool true] 115) := ⟨_, rfl⟩
  have HW2 := hide hw2
  have hb2 : Below w.heap.size w w2 := by rw [hw2]; exact HB0.out.trans ((ba1 _ _).mono HB0.out.size)
  have kr2 : Bk w2 w1.heap.size 115 #[.string ByteArray.empty, .bool true] := by rw [hw2]; exact Bk.new _ _ _
  have ks2 := HRes.out.keep (show Below w1.heap.size w1 w2 by rw [hw2]; exact ba1 _ _)
  have HB2 := hide hb2
  have HK2 := hide kr2
  have HS2 := hide ks2
  clear hw2 hb2 kr2 ks2
  go_upto_region 6 with (go_at_call 55; rw [← HW2.out]; refine Calls.mono (HKd.out _ (HL.out.all HB2.out)) ?_; rintro e w3 ⟨rfl, hb3⟩; have HB3 := hide hb3; clear hb3)
  obtain ⟨W, hW⟩ : ∃ W, W = w3.alloc (.cells #[.int .u8 5, .string ⟨#[]⟩, .string ⟨#[]⟩, .string ⟨#[]⟩, .int .i64 0, .slice none 0 0] 39) := ⟨_, rfl⟩
  rw [← hW]
  have hst : StAt w W w1.heap.size w3.heap.size (r, true) #[.int .u8 5, .string ⟨#[]⟩, .string ⟨#[]⟩, .string ⟨#[]⟩, .int .i64 0, .slice none 0 0] := by
    have h3 := HB3.out.trans (show Below w2.heap.size w3 W by rw [hW]; exact (ba1 _ _).mono HB3.out.size)
    have hkw : Bk W w3.heap.size 39 #[.int .u8 5, .string ⟨#[]⟩, .string ⟨#[]⟩, .string ⟨#[]⟩, .int .i64 0, .slice none 0 0] := by rw [hW]; exact Bk.new _ _ _
    have hl : LrAt W w1.heap.size (r, true) := by unfold LrAt; rw [← HAr.out]; exact HK2.out.keep h3
    exact ⟨hl, hkw, HS2.out.keep h3, HB2.out.trans (h3.mono HB2.out.size), by rw [HZ0.out]; omega, Nat.lt_of_lt_of_le HK2.out.lt HB3.out.size⟩
  obtain ⟨gr, hgr⟩ : ∃ gr, gr = w1.heap.size := ⟨_, rfl⟩
  obtain ⟨gx, hgx⟩ : ∃ gx, gx = w3.heap.size := ⟨_, rfl⟩
  rw [← hgr, ← hgx] at hst
  rw [← hgr, ← hgx]
  clear hW HB3 HB2 HK2 HS2 HW2 HW0 HB0 HRes HKd HIx HZ0 hAe hBe hIw haw hal hgr hgx HAr
  clear hk10
  have HS := hide hst
  obtain ⟨lr0, x0, rs0, hb0, hlt1, hlt2⟩ := hst
  have y0 := x0.cell 0
  have lx := x0.lt
  clear lr0 x0 rs0 hb0
  go_upto_region 24 with (fail)
  have HrL0 := HrL
  obtain ⟨q, hq⟩ : ∃ q, q = (r, true) := ⟨_, rfl⟩
  have hsf := HS.out
  rw [← hq] at hsf
  obtain ⟨S, ok⟩ := q
  have HQ := hide hq
  obtain ⟨lr, xr, rr, hbW, _, _⟩ := hsf
  have lr' : Bk W gr 115 #[.string (blB S), .bool ok] := lr
  obtain ⟨l0, l1⟩ := two_cells lr'
  obtain ⟨E, hE⟩ : ∃ E, E = (blB S).toList.isEmpty := ⟨_, rfl⟩
  have hE' : (blB S).toList.isEmpty = E := hE.symm
  have hES : (E = true) = (S = []) := by rw [hE, isEmpty_str, blB_size, decide_eq_true_eq, List.length_eq_zero_iff]
  have HES := hide hES
  have x0 := xr.cell 0
  have x1 := xr.cell 1
  have x2 := xr.cell 2
  have x3 := xr.cell 3
  have x4 := xr.cell 4
  have x5 := xr.cell 5
  have r0 := rr.cell 0
  have f0 := rr.free 0
  have r1 := rr.cell 1
  have f1 := rr.free 1
  have r2 := rr.cell 2
  have f2 := rr.free 2
  have r3 := rr.cell 3
  have f3 := rr.free 3
  have r4 := rr.cell 4
  have f4 := rr.free 4
  have r5 := rr.cell 5
  have f5 := rr.free 5
  have lw := rr.lt
  have lx := xr.lt
  have HRR := hide rr
  have HBW := hide hbW
  clear hq lr lr' hE hES hbW rr xr
  cases ok with
  | true =>
    go_region
    all_goals go_wp2_with fail
    refine bodyPost_ret (v := .tuple #[stpV ⟨5, ⟨#[]⟩, ⟨#[]⟩, ⟨#[]⟩, 0, []⟩ (.slice none 0 0), .bool E]) (res_stepD (put6_bk HRR.out _ _ _ _ _ _) rfl rfl) rfl ?_
    have he : stepK 5 r = if (true && E) = true then some ⟨5, ⟨#[]⟩, ⟨#[]⟩, ⟨#[]⟩, 0, []⟩ else none := by
      have hq2 := HQ.out
      have hS : S = r := (Prod.mk.inj hq2).1
      have hes := HES.out
      rw [hS] at hes
      show (if r = [] then some _ else none) = if E = true then some _ else none
      by_cases h0 : r = []
      · rw [if_pos h0, if_pos (by rw [hes]; exact h0)]
      · rw [if_neg h0, if_neg (by rw [hes]; exact h0)]
    exact ⟨⟨⟨5, ⟨#[]⟩, ⟨#[]⟩, ⟨#[]⟩, 0, []⟩, (.slice none 0 0), E, rfl, World.ownsRow_nil _ _ _ _, he⟩, Below.drew (put6_below HBW.out (Nat.le_refl _) _ _ _ _ _ _)⟩
  | false =>
    go_region
    all_goals go_wp2_with fail
    refine bodyPost_ret (v := .tuple #[stpV ⟨5, ⟨#[]⟩, ⟨#[]⟩, ⟨#[]⟩, 0, []⟩ (.slice none 0 0), .bool false]) (res_stepD (put6_bk HRR.out _ _ _ _ _ _) rfl rfl) rfl ?_
    have he : stepK 5 r = if (false && E) = true then some ⟨5, ⟨#[]⟩, ⟨#[]⟩, ⟨#[]⟩, 0, []⟩ else none := by
      have hq2 := HQ.out
      cases hq2
    exact ⟨⟨⟨5, ⟨#[]⟩, ⟨#[]⟩, ⟨#[]⟩, 0, []⟩, (.slice none 0 0), false, rfl, World.ownsRow_nil _ _ _ _, he⟩, Below.drew (put6_below HBW.out (Nat.le_refl _) _ _ _ _ _ _)⟩
end Go.Proofs.YtahnnebpadbopaaGreatDoor
/- Walk: front.step, part 2 (printed by gen_fsa.py). -/
namespace Go.Proofs.YtahnnebpadbopaaGreatDoor
open Go.RowKit

set_option maxRecDepth 100000 in
set_option maxHeartbeats 8000000 in
theorem step_0_6 (s : ByteArray) (w : World) (hs : s.size ≤ 100000000) (hL : Lay w) (hkk : kindB ((bl s).take (spaceI (bl s))) = 6) (hsd : Lib.indexByte (bl s) 32 = -1) :
    Calls Tryz.prog 32 #[.string s] w fun e w' => (∃ (st : Stp) (kv : Value) (b : Bool), e = .returned (.tuple #[stpV st kv, .bool b]) ∧ KpO w' w.heap.size kv st.keep ∧ stepB (bl s) = if b then some st else none) ∧ Below w.heap.size w w' := by
  obtain ⟨a, ha⟩ : ∃ a, a = spaceI (bl s) := ⟨_, rfl⟩
  have hal : a ≤ s.size := by have := space_le (bl s); rw [bl_size] at this; omega
  obtain ⟨A, hA⟩ : ∃ A, A = s.extract a s.size := ⟨_, rfl⟩
  obtain ⟨B, hB⟩ : ∃ B, B = s.extract 0 a := ⟨_, rfl⟩
  have hbA : bl A = (bl s).drop a := by rw [hA, bl_extract, List.take_of_length_le (by rw [bl_size]; exact Nat.le_refl _)]
  have hbB : bl B = (bl s).take a := by rw [hB, bl_extract, List.drop_zero]
  have hAl : A.size ≤ 100000000 := by rw [← bl_size, hbA, List.length_drop, bl_size]; omega
  have hBl : B.size ≤ 100000000 := by rw [← bl_size, hbB, List.length_take, bl_size]; omega
  have hst : stepB (bl s) = stepK (kindB (bl B)) (bl A) := by unfold stepB; rw [hbA, hbB, ha]
  rw [hst]
  have hk10 := kindB_le (bl B)
  have hkd := fun W hW => kind_any B W hBl hW
  obtain ⟨K, hK⟩ : ∃ K, K = kindB (bl B) := ⟨_, rfl⟩
  rw [← hK] at hkd hk10 ⊢
  obtain rfl : K = 6 := by rw [hK, hbB, ha]; exact hkk
  obtain ⟨r, hr⟩ : ∃ r, r = bl A := ⟨_, rfl⟩
  rw [← hr]
  have hAr : A = blB r := by rw [hr, blB_bl]
  have hrl : r.length ≤ 100000000 := by rw [hr, bl_size]; exact hAl
  have HKd := hide hkd
  have HL := hide hL
  have HAr := hide hAr
  have HrL := hide hrl
  have haw : (0 : Int) ≤ (a : Int) := by omega
  have hix : ∀ W, Calls Tryz.prog 53 #[.string s, .int .u8 32] W fun e w' => e = .returned (.int .i64 (-1)) ∧ w' = W := fun W => by
    have := Tryz.strings_IndexByte s 32 W
    rw [show Lib.indexByte s.data.toList ((32 : Int).toNat.toUInt8) = -1 from hsd] at this
    exact this
  obtain rfl : a = s.size := by
    rcases space_idx (bl s) with ⟨h1, h2⟩ | ⟨k, h1, h2, h3⟩
    · rw [ha, h2, bl_size]
    · rw [hsd] at h1; omega
  have HIx := hide hix
  have hAe : s.extract s.size s.size = A := hA.symm
  have hBe : s.extract 0 s.size = B := hB.symm
  have hIw : IntKind.i64.wrap (s.size : Int) = (s.size : Int) := IntWalk.i64_in _ ⟨by omega, by omega⟩
  clear hst hkd hkk hsd hK hr hrl hL hix hAr ha hA hB hbA hbB hAl
  obtain ⟨w0, hw0⟩ : ∃ w0, w0 = w.alloc (.cells #[.int .u8 0, .string ⟨#[]⟩, .string ⟨#[]⟩, .string ⟨#[]⟩, .int .i64 0, .slice none 0 0] 39) := ⟨_, rfl⟩
  have hb0 : Below w.heap.size w w0 := by rw [hw0]; exact ba1 _ _
  have kres : Bk w0 w.heap.size 39 #[.int .u8 0, .string ⟨#[]⟩, .string ⟨#[]⟩, .string ⟨#[]⟩, .int .i64 0, .slice none 0 0] := by rw [hw0]; exact Bk.new _ _ _
  have HW0 := hide hw0
  have HB0 := hide hb0
  have HRes := hide kres
  have hz0 : w0.heap.size = w.heap.size + 1 := by rw [hw0]; simp
  have HZ0 := hide hz0
  clear hw0 hb0 kres hz0
  go_enter Tryz.func32, Tryz.ntmps32
  have hAE : A = ByteArray.empty := by rw [← hAe]; simp
  subst hAE
  go_upto_region 4 with (go_at_call 53; rw [← HW0.out]; refine Calls.mono (HIx.out _) ?_; rintro e w1 ⟨rfl, rfl⟩)
  obtain ⟨w2, hw2⟩ : ∃ w2, w2 = w1.alloc (.cells #[.string ByteArray.empty, .bool true] 115) := ⟨_, rfl⟩
  have HW2 := hide hw2
  have hb2 : Below w.heap.size w w2 := by rw [hw2]; exact HB0.out.trans ((ba1 _ _).mono HB0.out.size)
  have kr2 : Bk w2 w1.heap.size 115 #[.string ByteArray.empty, .bool true] := by rw [hw2]; exact Bk.new _ _ _
  have ks2 := HRes.out.keep (show Below w1.heap.size w1 w2 by rw [hw2]; exact ba1 _ _)
  have HB2 := hide hb2
  have HK2 := hide kr2
  have HS2 := hide ks2
  clear hw2 hb2 kr2 ks2
  go_upto_region 6 with (go_at_call 55; rw [← HW2.out]; refine Calls.mono (HKd.out _ (HL.out.all HB2.out)) ?_; rintro e w3 ⟨rfl, hb3⟩; have HB3 := hide hb3; clear hb3)
  obtain ⟨W, hW⟩ : ∃ W, W = w3.alloc (.cells #[.int .u8 6, .string ⟨#[]⟩, .string ⟨#[]⟩, .string ⟨#[]⟩, .int .i64 0, .slice none 0 0] 39) := ⟨_, rfl⟩
  rw [← hW]
  have hst : StAt w W w1.heap.size w3.heap.size (r, true) #[.int .u8 6, .string ⟨#[]⟩, .string ⟨#[]⟩, .string ⟨#[]⟩, .int .i64 0, .slice none 0 0] := by
    have h3 := HB3.out.trans (show Below w2.heap.size w3 W by rw [hW]; exact (ba1 _ _).mono HB3.out.size)
    have hkw : Bk W w3.heap.size 39 #[.int .u8 6, .string ⟨#[]⟩, .string ⟨#[]⟩, .string ⟨#[]⟩, .int .i64 0, .slice none 0 0] := by rw [hW]; exact Bk.new _ _ _
    have hl : LrAt W w1.heap.size (r, true) := by unfold LrAt; rw [← HAr.out]; exact HK2.out.keep h3
    exact ⟨hl, hkw, HS2.out.keep h3, HB2.out.trans (h3.mono HB2.out.size), by rw [HZ0.out]; omega, Nat.lt_of_lt_of_le HK2.out.lt HB3.out.size⟩
  obtain ⟨gr, hgr⟩ : ∃ gr, gr = w1.heap.size := ⟨_, rfl⟩
  obtain ⟨gx, hgx⟩ : ∃ gx, gx = w3.heap.size := ⟨_, rfl⟩
  rw [← hgr, ← hgx] at hst
  rw [← hgr, ← hgx]
  clear hW HB3 HB2 HK2 HS2 HW2 HW0 HB0 HRes HKd HIx HZ0 hAe hBe hIw haw hal hgr hgx HAr
  clear hk10
  have HS := hide hst
  obtain ⟨lr0, x0, rs0, hb0, hlt1, hlt2⟩ := hst
  have y0 := x0.cell 0
  have lx := x0.lt
  clear lr0 x0 rs0 hb0
  obtain ⟨T1, hT1⟩ : ∃ T, T = rdText (r, true) := ⟨_, rfl⟩
  have cT1 := fun W (h : LrAt W gr (r, true)) => rtext_any gr (r, true) W h HrL.out
  rw [← hT1] at cT1
  obtain ⟨VT1, hVT1⟩ : ∃ V, V = blB T1.1 := ⟨_, rfl⟩
  rw [← hVT1] at cT1
  have hlen1 : T1.2.1.length ≤ 100000000 := by rw [hT1]; exact Nat.le_trans (text_len _) HrL.out
  have HVT1 := hide hVT1
  clear hVT1
  have HCT1 := hide cT1
  have HT1 := hide hT1
  clear cT1 hT1
  go_upto_region 15 with (go_at_call 56; refine Calls.mono (HCT1.out _ HS.out.1) ?_; rintro e w5 ⟨rfl, hl, hf⟩; have HS5 := hide (StAt.call HS.out hf hl); have x5 := HS5.out.2.1; have fz := x5.free 1; have cz := x5.cell 1; have lz := x5.lt; clear hl hf x5)
  obtain ⟨W0, hW0⟩ : ∃ W', W' = w5.setCell ⟨gx, 1, none⟩ (.string VT1) := ⟨_, rfl⟩
  rw [← hW0]
  have hs0 := StAt.set HS5.out 1 (.string VT1)
  rw [← hW0] at hs0
  have HS := hide hs0
  clear hW0 hs0 fz cz lz HS5
  obtain ⟨T2, hT2⟩ : ∃ T, T = rdText T1.2 := ⟨_, rfl⟩
  have cT2 := fun W (h : LrAt W gr T1.2) => rtext_any gr T1.2 W h hlen1
  rw [← hT2] at cT2
  obtain ⟨VT2, hVT2⟩ : ∃ V, V = blB T2.1 := ⟨_, rfl⟩
  rw [← hVT2] at cT2
  have HVT2 := hide hVT2
  clear hVT2
  have HCT2 := hide cT2
  have HT2 := hide hT2
  clear cT2 hT2
  go_upto_region 24 with (go_at_call 56; refine Calls.mono (HCT2.out _ HS.out.1) ?_; rintro e w5 ⟨rfl, hl, hf⟩; have HS5 := hide (StAt.call HS.out hf hl); have x5 := HS5.out.2.1; have fz := x5.free 2; have cz := x5.cell 2; have lz := x5.lt; clear hl hf x5)
  obtain ⟨W1, hW1⟩ : ∃ W', W' = w5.setCell ⟨gx, 2, none⟩ (.string VT2) := ⟨_, rfl⟩
  rw [← hW1]
  have hs1 := StAt.set HS5.out 2 (.string VT2)
  rw [← hW1] at hs1
  have HS := hide hs1
  clear hW1 hs1 fz cz lz HS5
  obtain ⟨q, hq⟩ : ∃ q, q = T2.2 := ⟨_, rfl⟩
  have hsf := HS.out
  rw [← hq] at hsf
  obtain ⟨S, ok⟩ := q
  have HQ := hide hq
  obtain ⟨lr, xr, rr, hbW, _, _⟩ := hsf
  have lr' : Bk W1 gr 115 #[.string (blB S), .bool ok] := lr
  obtain ⟨l0, l1⟩ := two_cells lr'
  obtain ⟨E, hE⟩ : ∃ E, E = (blB S).toList.isEmpty := ⟨_, rfl⟩
  have hE' : (blB S).toList.isEmpty = E := hE.symm
  have hES : (E = true) = (S = []) := by rw [hE, isEmpty_str, blB_size, decide_eq_true_eq, List.length_eq_zero_iff]
  have HES := hide hES
  have x0 := xr.cell 0
  have x1 := xr.cell 1
  have x2 := xr.cell 2
  have x3 := xr.cell 3
  have x4 := xr.cell 4
  have x5 := xr.cell 5
  have r0 := rr.cell 0
  have f0 := rr.free 0
  have r1 := rr.cell 1
  have f1 := rr.free 1
  have r2 := rr.cell 2
  have f2 := rr.free 2
  have r3 := rr.cell 3
  have f3 := rr.free 3
  have r4 := rr.cell 4
  have f4 := rr.free 4
  have r5 := rr.cell 5
  have f5 := rr.free 5
  have lw := rr.lt
  have lx := xr.lt
  have HRR := hide rr
  have HBW := hide hbW
  clear hq lr lr' hE hES hbW rr xr
  cases ok with
  | true =>
    go_region
    all_goals go_wp2_with fail
    refine bodyPost_ret (v := .tuple #[stpV ⟨6, VT1, VT2, ⟨#[]⟩, 0, []⟩ (.slice none 0 0), .bool E]) (res_stepD (put6_bk HRR.out _ _ _ _ _ _) rfl rfl) rfl ?_
    have he : stepK 6 r = if (true && E) = true then some ⟨6, VT1, VT2, ⟨#[]⟩, 0, []⟩ else none := by
      rw [show stepK 6 r = (if (rdText (rdText (r, true)).2).2 = (([] : List UInt8), true) then some ⟨6, blB (rdText (r, true)).1, blB (rdText (rdText (r, true)).2).1, ⟨#[]⟩, 0, []⟩ else none) from rfl, ← HT1.out, ← HT2.out, ← HQ.out, ← HVT1.out, ← HVT2.out]
      exact if_done true HES.out _
    exact ⟨⟨⟨6, VT1, VT2, ⟨#[]⟩, 0, []⟩, (.slice none 0 0), E, rfl, World.ownsRow_nil _ _ _ _, he⟩, Below.drew (put6_below HBW.out (Nat.le_refl _) _ _ _ _ _ _)⟩
  | false =>
    go_region
    all_goals go_wp2_with fail
    refine bodyPost_ret (v := .tuple #[stpV ⟨6, VT1, VT2, ⟨#[]⟩, 0, []⟩ (.slice none 0 0), .bool false]) (res_stepD (put6_bk HRR.out _ _ _ _ _ _) rfl rfl) rfl ?_
    have he : stepK 6 r = if (false && E) = true then some ⟨6, VT1, VT2, ⟨#[]⟩, 0, []⟩ else none := by
      rw [show stepK 6 r = (if (rdText (rdText (r, true)).2).2 = (([] : List UInt8), true) then some ⟨6, blB (rdText (r, true)).1, blB (rdText (rdText (r, true)).2).1, ⟨#[]⟩, 0, []⟩ else none) from rfl, ← HT1.out, ← HT2.out, ← HQ.out, ← HVT1.out, ← HVT2.out]
      exact if_done false HES.out _
    exact ⟨⟨⟨6, VT1, VT2, ⟨#[]⟩, 0, []⟩, (.slice none 0 0), false, rfl, World.ownsRow_nil _ _ _ _, he⟩, Below.drew (put6_below HBW.out (Nat.le_refl _) _ _ _ _ _ _)⟩
set_option maxRecDepth 100000 in
set_option maxHeartbeats 8000000 in
theorem step_0_7 (s : ByteArray) (w : World) (hs : s.size ≤ 100000000) (hL : Lay w) (hkk : kindB ((bl s).take (spaceI (bl s))) = 7) (hsd : Lib.indexByte (bl s) 32 = -1) :
    Calls Tryz.prog 32 #[.string s] w fun e w' => (∃ (st : Stp) (kv : Value) (b : Bool), e = .returned (.tuple #[stpV st kv, .bool b]) ∧ KpO w' w.heap.size kv st.keep ∧ stepB (bl s) = if b then some st else none) ∧ Below w.heap.size w w' := by
  obtain ⟨a, ha⟩ : ∃ a, a = spaceI (bl s) := ⟨_, rfl⟩
  have hal : a ≤ s.size := by have := space_le (bl s); rw [bl_size] at this; omega
  obtain ⟨A, hA⟩ : ∃ A, A = s.extract a s.size := ⟨_, rfl⟩
  obtain ⟨B, hB⟩ : ∃ B, B = s.extract 0 a := ⟨_, rfl⟩
  have hbA : bl A = (bl s).drop a := by rw [hA, bl_extract, List.take_of_length_le (by rw [bl_size]; exact Nat.le_refl _)]
  have hbB : bl B = (bl s).take a := by rw [hB, bl_extract, List.drop_zero]
  have hAl : A.size ≤ 100000000 := by rw [← bl_size, hbA, List.length_drop, bl_size]; omega
  have hBl : B.size ≤ 100000000 := by rw [← bl_size, hbB, List.length_take, bl_size]; omega
  have hst : stepB (bl s) = stepK (kindB (bl B)) (bl A) := by unfold stepB; rw [hbA, hbB, ha]
  rw [hst]
  have hk10 := kindB_le (bl B)
  have hkd := fun W hW => kind_any B W hBl hW
  obtain ⟨K, hK⟩ : ∃ K, K = kindB (bl B) := ⟨_, rfl⟩
  rw [← hK] at hkd hk10 ⊢
  obtain rfl : K = 7 := by rw [hK, hbB, ha]; exact hkk
  obtain ⟨r, hr⟩ : ∃ r, r = bl A := ⟨_, rfl⟩
  rw [← hr]
  have hAr : A = blB r := by rw [hr, blB_bl]
  have hrl : r.length ≤ 100000000 := by rw [hr, bl_size]; exact hAl
  have HKd := hide hkd
  have HL := hide hL
  have HAr := hide hAr
  have HrL := hide hrl
  have haw : (0 : Int) ≤ (a : Int) := by omega
  have hix : ∀ W, Calls Tryz.prog 53 #[.string s, .int .u8 32] W fun e w' => e = .returned (.int .i64 (-1)) ∧ w' = W := fun W => by
    have := Tryz.strings_IndexByte s 32 W
    rw [show Lib.indexByte s.data.toList ((32 : Int).toNat.toUInt8) = -1 from hsd] at this
    exact this
  obtain rfl : a = s.size := by
    rcases space_idx (bl s) with ⟨h1, h2⟩ | ⟨k, h1, h2, h3⟩
    · rw [ha, h2, bl_size]
    · rw [hsd] at h1; omega
  have HIx := hide hix
  have hAe : s.extract s.size s.size = A := hA.symm
  have hBe : s.extract 0 s.size = B := hB.symm
  have hIw : IntKind.i64.wrap (s.size : Int) = (s.size : Int) := IntWalk.i64_in _ ⟨by omega, by omega⟩
  clear hst hkd hkk hsd hK hr hrl hL hix hAr ha hA hB hbA hbB hAl
  obtain ⟨w0, hw0⟩ : ∃ w0, w0 = w.alloc (.cells #[.int .u8 0, .string ⟨#[]⟩, .string ⟨#[]⟩, .string ⟨#[]⟩, .int .i64 0, .slice none 0 0] 39) := ⟨_, rfl⟩
  have hb0 : Below w.heap.size w w0 := by rw [hw0]; exact ba1 _ _
  have kres : Bk w0 w.heap.size 39 #[.int .u8 0, .string ⟨#[]⟩, .string ⟨#[]⟩, .string ⟨#[]⟩, .int .i64 0, .slice none 0 0] := by rw [hw0]; exact Bk.new _ _ _
  have HW0 := hide hw0
  have HB0 := hide hb0
  have HRes := hide kres
  have hz0 : w0.heap.size = w.heap.size + 1 := by rw [hw0]; simp
  have HZ0 := hide hz0
  clear hw0 hb0 kres hz0
  go_enter Tryz.func32, Tryz.ntmps32
  have hAE : A = ByteArray.empty := by rw [← hAe]; simp
  subst hAE
  go_upto_region 4 with (go_at_call 53; rw [← HW0.out]; refine Calls.mono (HIx.out _) ?_; rintro e w1 ⟨rfl, rfl⟩)
  obtain ⟨w2, hw2⟩ : ∃ w2, w2 = w1.alloc (.cells #[.string ByteArray.empty, .bool true] 115) := ⟨_, rfl⟩
  have HW2 := hide hw2
  have hb2 : Below w.heap.size w w2 := by rw [hw2]; exact HB0.out.trans ((ba1 _ _).mono HB0.out.size)
  have kr2 : Bk w2 w1.heap.size 115 #[.string ByteArray.empty, .bool true] := by rw [hw2]; exact Bk.new _ _ _
  have ks2 := HRes.out.keep (show Below w1.heap.size w1 w2 by rw [hw2]; exact ba1 _ _)
  have HB2 := hide hb2
  have HK2 := hide kr2
  have HS2 := hide ks2
  clear hw2 hb2 kr2 ks2
  go_upto_region 6 with (go_at_call 55; rw [← HW2.out]; refine Calls.mono (HKd.out _ (HL.out.all HB2.out)) ?_; rintro e w3 ⟨rfl, hb3⟩; have HB3 := hide hb3; clear hb3)
  obtain ⟨W, hW⟩ : ∃ W, W = w3.alloc (.cells #[.int .u8 7, .string ⟨#[]⟩, .string ⟨#[]⟩, .string ⟨#[]⟩, .int .i64 0, .slice none 0 0] 39) := ⟨_, rfl⟩
  rw [← hW]
  have hst : StAt w W w1.heap.size w3.heap.size (r, true) #[.int .u8 7, .string ⟨#[]⟩, .string ⟨#[]⟩, .string ⟨#[]⟩, .int .i64 0, .slice none 0 0] := by
    have h3 := HB3.out.trans (show Below w2.heap.size w3 W by rw [hW]; exact (ba1 _ _).mono HB3.out.size)
    have hkw : Bk W w3.heap.size 39 #[.int .u8 7, .string ⟨#[]⟩, .string ⟨#[]⟩, .string ⟨#[]⟩, .int .i64 0, .slice none 0 0] := by rw [hW]; exact Bk.new _ _ _
    have hl : LrAt W w1.heap.size (r, true) := by unfold LrAt; rw [← HAr.out]; exact HK2.out.keep h3
    exact ⟨hl, hkw, HS2.out.keep h3, HB2.out.trans (h3.mono HB2.out.size), by rw [HZ0.out]; omega, Nat.lt_of_lt_of_le HK2.out.lt HB3.out.size⟩
  obtain ⟨gr, hgr⟩ : ∃ gr, gr = w1.heap.size := ⟨_, rfl⟩
  obtain ⟨gx, hgx⟩ : ∃ gx, gx = w3.heap.size := ⟨_, rfl⟩
  rw [← hgr, ← hgx] at hst
  rw [← hgr, ← hgx]
  clear hW HB3 HB2 HK2 HS2 HW2 HW0 HB0 HRes HKd HIx HZ0 hAe hBe hIw haw hal hgr hgx HAr
  clear hk10
  have HS := hide hst
  obtain ⟨lr0, x0, rs0, hb0, hlt1, hlt2⟩ := hst
  have y0 := x0.cell 0
  have lx := x0.lt
  clear lr0 x0 rs0 hb0
  go_upto_region 24 with (fail)
  have HrL0 := HrL
  obtain ⟨q, hq⟩ : ∃ q, q = (r, true) := ⟨_, rfl⟩
  have hsf := HS.out
  rw [← hq] at hsf
  obtain ⟨S, ok⟩ := q
  have HQ := hide hq
  obtain ⟨lr, xr, rr, hbW, _, _⟩ := hsf
  have lr' : Bk W gr 115 #[.string (blB S), .bool ok] := lr
  obtain ⟨l0, l1⟩ := two_cells lr'
  obtain ⟨E, hE⟩ : ∃ E, E = (blB S).toList.isEmpty := ⟨_, rfl⟩
  have hE' : (blB S).toList.isEmpty = E := hE.symm
  have hES : (E = true) = (S = []) := by rw [hE, isEmpty_str, blB_size, decide_eq_true_eq, List.length_eq_zero_iff]
  have HES := hide hES
  have x0 := xr.cell 0
  have x1 := xr.cell 1
  have x2 := xr.cell 2
  have x3 := xr.cell 3
  have x4 := xr.cell 4
  have x5 := xr.cell 5
  have r0 := rr.cell 0
  have f0 := rr.free 0
  have r1 := rr.cell 1
  have f1 := rr.free 1
  have r2 := rr.cell 2
  have f2 := rr.free 2
  have r3 := rr.cell 3
  have f3 := rr.free 3
  have r4 := rr.cell 4
  have f4 := rr.free 4
  have r5 := rr.cell 5
  have f5 := rr.free 5
  have lw := rr.lt
  have lx := xr.lt
  have HRR := hide rr
  have HBW := hide hbW
  clear hq lr lr' hE hES hbW rr xr
  cases ok with
  | true =>
    go_region
    all_goals go_wp2_with fail
    refine bodyPost_ret (v := .tuple #[stpV ⟨7, ⟨#[]⟩, ⟨#[]⟩, ⟨#[]⟩, 0, []⟩ (.slice none 0 0), .bool E]) (res_stepD (put6_bk HRR.out _ _ _ _ _ _) rfl rfl) rfl ?_
    have he : stepK 7 r = if (true && E) = true then some ⟨7, ⟨#[]⟩, ⟨#[]⟩, ⟨#[]⟩, 0, []⟩ else none := by
      have hq2 := HQ.out
      have hS : S = r := (Prod.mk.inj hq2).1
      have hes := HES.out
      rw [hS] at hes
      show (if r = [] then some _ else none) = if E = true then some _ else none
      by_cases h0 : r = []
      · rw [if_pos h0, if_pos (by rw [hes]; exact h0)]
      · rw [if_neg h0, if_neg (by rw [hes]; exact h0)]
    exact ⟨⟨⟨7, ⟨#[]⟩, ⟨#[]⟩, ⟨#[]⟩, 0, []⟩, (.slice none 0 0), E, rfl, World.ownsRow_nil _ _ _ _, he⟩, Below.drew (put6_below HBW.out (Nat.le_refl _) _ _ _ _ _ _)⟩
  | false =>
    go_region
    all_goals go_wp2_with fail
    refine bodyPost_ret (v := .tuple #[stpV ⟨7, ⟨#[]⟩, ⟨#[]⟩, ⟨#[]⟩, 0, []⟩ (.slice none 0 0), .bool false]) (res_stepD (put6_bk HRR.out _ _ _ _ _ _) rfl rfl) rfl ?_
    have he : stepK 7 r = if (false && E) = true then some ⟨7, ⟨#[]⟩, ⟨#[]⟩, ⟨#[]⟩, 0, []⟩ else none := by
      have hq2 := HQ.out
      cases hq2
    exact ⟨⟨⟨7, ⟨#[]⟩, ⟨#[]⟩, ⟨#[]⟩, 0, []⟩, (.slice none 0 0), false, rfl, World.ownsRow_nil _ _ _ _, he⟩, Below.drew (put6_below HBW.out (Nat.le_refl _) _ _ _ _ _ _)⟩
set_option maxRecDepth 100000 in
set_option maxHeartbeats 8000000 in
theorem step_0_8 (s : ByteArray) (w : World) (hs : s.size ≤ 100000000) (hL : Lay w) (hkk : kindB ((bl s).take (spaceI (bl s))) = 8) (hsd : Lib.indexByte (bl s) 32 = -1) :
    Calls Tryz.prog 32 #[.string s] w fun e w' => (∃ (st : Stp) (kv : Value) (b : Bool), e = .returned (.tuple #[stpV st kv, .bool b]) ∧ KpO w' w.heap.size kv st.keep ∧ stepB (bl s) = if b then some st else none) ∧ Below w.heap.size w w' := by
  obtain ⟨a, ha⟩ : ∃ a, a = spaceI (bl s) := ⟨_, rfl⟩
  have hal : a ≤ s.size := by have := space_le (bl s); rw [bl_size] at this; omega
  obtain ⟨A, hA⟩ : ∃ A, A = s.extract a s.size := ⟨_, rfl⟩
  obtain ⟨B, hB⟩ : ∃ B, B = s.extract 0 a := ⟨_, rfl⟩
  have hbA : bl A = (bl s).drop a := by rw [hA, bl_extract, List.take_of_length_le (by rw [bl_size]; exact Nat.le_refl _)]
  have hbB : bl B = (bl s).take a := by rw [hB, bl_extract, List.drop_zero]
  have hAl : A.size ≤ 100000000 := by rw [← bl_size, hbA, List.length_drop, bl_size]; omega
  have hBl : B.size ≤ 100000000 := by rw [← bl_size, hbB, List.length_take, bl_size]; omega
  have hst : stepB (bl s) = stepK (kindB (bl B)) (bl A) := by unfold stepB; rw [hbA, hbB, ha]
  rw [hst]
  have hk10 := kindB_le (bl B)
  have hkd := fun W hW => kind_any B W hBl hW
  obtain ⟨K, hK⟩ : ∃ K, K = kindB (bl B) := ⟨_, rfl⟩
  rw [← hK] at hkd hk10 ⊢
  obtain rfl : K = 8 := by rw [hK, hbB, ha]; exact hkk
  obtain ⟨r, hr⟩ : ∃ r, r = bl A := ⟨_, rfl⟩
  rw [← hr]
  have hAr : A = blB r := by rw [hr, blB_bl]
  have hrl : r.length ≤ 100000000 := by rw [hr, bl_size]; exact hAl
  have HKd := hide hkd
  have HL := hide hL
  have HAr := hide hAr
  have HrL := hide hrl
  have haw : (0 : Int) ≤ (a : Int) := by omega
  have hix : ∀ W, Calls Tryz.prog 53 #[.string s, .int .u8 32] W fun e w' => e = .returned (.int .i64 (-1)) ∧ w' = W := fun W => by
    have := Tryz.strings_IndexByte s 32 W
    rw [show Lib.indexByte s.data.toList ((32 : Int).toNat.toUInt8) = -1 from hsd] at this
    exact this
  obtain rfl : a = s.size := by
    rcases space_idx (bl s) with ⟨h1, h2⟩ | ⟨k, h1, h2, h3⟩
    · rw [ha, h2, bl_size]
    · rw [hsd] at h1; omega
  have HIx := hide hix
  have hAe : s.extract s.size s.size = A := hA.symm
  have hBe : s.extract 0 s.size = B := hB.symm
  have hIw : IntKind.i64.wrap (s.size : Int) = (s.size : Int) := IntWalk.i64_in _ ⟨by omega, by omega⟩
  clear hst hkd hkk hsd hK hr hrl hL hix hAr ha hA hB hbA hbB hAl
  obtain ⟨w0, hw0⟩ : ∃ w0, w0 = w.alloc (.cells #[.int .u8 0, .string ⟨#[]⟩, .string ⟨#[]⟩, .string ⟨#[]⟩, .int .i64 0, .slice none 0 0] 39) := ⟨_, rfl⟩
  have hb0 : Below w.heap.size w w0 := by rw [hw0]; exact ba1 _ _
  have kres : Bk w0 w.heap.size 39 #[.int .u8 0, .string ⟨#[]⟩, .string ⟨#[]⟩, .string ⟨#[]⟩, .int .i64 0, .slice none 0 0] := by rw [hw0]; exact Bk.new _ _ _
  have HW0 := hide hw0
  have HB0 := hide hb0
  have HRes := hide kres
  have hz0 : w0.heap.size = w.heap.size + 1 := by rw [hw0]; simp
  have HZ0 := hide hz0
  clear hw0 hb0 kres hz0
  go_enter Tryz.func32, Tryz.ntmps32
  have hAE : A = ByteArray.empty := by rw [← hAe]; simp
  subst hAE
  go_upto_region 4 with (go_at_call 53; rw [← HW0.out]; refine Calls.mono (HIx.out _) ?_; rintro e w1 ⟨rfl, rfl⟩)
  obtain ⟨w2, hw2⟩ : ∃ w2, w2 = w1.alloc (.cells #[.string ByteArray.empty, .bool true] 115) := ⟨_, rfl⟩
  have HW2 := hide hw2
  have hb2 : Below w.heap.size w w2 := by rw [hw2]; exact HB0.out.trans ((ba1 _ _).mono HB0.out.size)
  have kr2 : Bk w2 w1.heap.size 115 #[.string ByteArray.empty, .bool true] := by rw [hw2]; exact Bk.new _ _ _
  have ks2 := HRes.out.keep (show Below w1.heap.size w1 w2 by rw [hw2]; exact ba1 _ _)
  have HB2 := hide hb2
  have HK2 := hide kr2
  have HS2 := hide ks2
  clear hw2 hb2 kr2 ks2
  go_upto_region 6 with (go_at_call 55; rw [← HW2.out]; refine Calls.mono (HKd.out _ (HL.out.all HB2.out)) ?_; rintro e w3 ⟨rfl, hb3⟩; have HB3 := hide hb3; clear hb3)
  obtain ⟨W, hW⟩ : ∃ W, W = w3.alloc (.cells #[.int .u8 8, .string ⟨#[]⟩, .string ⟨#[]⟩, .string ⟨#[]⟩, .int .i64 0, .slice none 0 0] 39) := ⟨_, rfl⟩
  rw [← hW]
  have hst : StAt w W w1.heap.size w3.heap.size (r, true) #[.int .u8 8, .string ⟨#[]⟩, .string ⟨#[]⟩, .string ⟨#[]⟩, .int .i64 0, .slice none 0 0] := by
    have h3 := HB3.out.trans (show Below w2.heap.size w3 W by rw [hW]; exact (ba1 _ _).mono HB3.out.size)
    have hkw : Bk W w3.heap.size 39 #[.int .u8 8, .string ⟨#[]⟩, .string ⟨#[]⟩, .string ⟨#[]⟩, .int .i64 0, .slice none 0 0] := by rw [hW]; exact Bk.new _ _ _
    have hl : LrAt W w1.heap.size (r, true) := by unfold LrAt; rw [← HAr.out]; exact HK2.out.keep h3
    exact ⟨hl, hkw, HS2.out.keep h3, HB2.out.trans (h3.mono HB2.out.size), by rw [HZ0.out]; omega, Nat.lt_of_lt_of_le HK2.out.lt HB3.out.size⟩
  obtain ⟨gr, hgr⟩ : ∃ gr, gr = w1.heap.size := ⟨_, rfl⟩
  obtain ⟨gx, hgx⟩ : ∃ gx, gx = w3.heap.size := ⟨_, rfl⟩
  rw [← hgr, ← hgx] at hst
  rw [← hgr, ← hgx]
  clear hW HB3 HB2 HK2 HS2 HW2 HW0 HB0 HRes HKd HIx HZ0 hAe hBe hIw haw hal hgr hgx HAr
  clear hk10
  have HS := hide hst
  obtain ⟨lr0, x0, rs0, hb0, hlt1, hlt2⟩ := hst
  have y0 := x0.cell 0
  have lx := x0.lt
  clear lr0 x0 rs0 hb0
  obtain ⟨T1, hT1⟩ : ∃ T, T = rdNum (r, true) := ⟨_, rfl⟩
  have cT1 := fun W (h : LrAt W gr (r, true)) (hL : Lay W) (hg : 14 ≤ gr) => rnum_any gr (r, true) W h HrL.out hL hg
  rw [← hT1] at cT1
  have HCT1 := hide cT1
  have HT1 := hide hT1
  clear cT1 hT1
  have HGr := hide (show 14 ≤ gr from Nat.le_trans HL.out.size (Nat.le_of_lt hlt1))
  go_upto_region 24 with (go_at_call 57; refine Calls.mono (HCT1.out _ HS.out.1 (HL.out.all HS.out.2.2.2.1) HGr.out) ?_; rintro e w5 ⟨⟨v5, rfl, hv5⟩, hl, hf⟩; have HV5 := hide hv5; have HS5 := hide (StAt.call HS.out hf hl); have x5 := HS5.out.2.1; have fz := x5.free 4; have cz := x5.cell 4; have lz := x5.lt; clear hl hf x5 hv5)
  obtain ⟨W0, hW0⟩ : ∃ W', W' = w5.setCell ⟨gx, 4, none⟩ (.int .i64 v5) := ⟨_, rfl⟩
  rw [← hW0]
  have hs0 := StAt.set HS5.out 4 (.int .i64 v5)
  rw [← hW0] at hs0
  have HS := hide hs0
  clear hW0 hs0 fz cz lz HS5
  obtain ⟨q, hq⟩ : ∃ q, q = (([] : List UInt8), T1.2) := ⟨_, rfl⟩
  have hsf := HS.out
  rw [← hq] at hsf
  obtain ⟨S, ok⟩ := q
  have HQ := hide hq
  obtain ⟨lr, xr, rr, hbW, _, _⟩ := hsf
  have lr' : Bk W0 gr 115 #[.string (blB S), .bool ok] := lr
  obtain ⟨l0, l1⟩ := two_cells lr'
  obtain ⟨E, hE⟩ : ∃ E, E = (blB S).toList.isEmpty := ⟨_, rfl⟩
  have hE' : (blB S).toList.isEmpty = E := hE.symm
  have hES : (E = true) = (S = []) := by rw [hE, isEmpty_str, blB_size, decide_eq_true_eq, List.length_eq_zero_iff]
  have HES := hide hES
  have x0 := xr.cell 0
  have x1 := xr.cell 1
  have x2 := xr.cell 2
  have x3 := xr.cell 3
  have x4 := xr.cell 4
  have x5 := xr.cell 5
  have r0 := rr.cell 0
  have f0 := rr.free 0
  have r1 := rr.cell 1
  have f1 := rr.free 1
  have r2 := rr.cell 2
  have f2 := rr.free 2
  have r3 := rr.cell 3
  have f3 := rr.free 3
  have r4 := rr.cell 4
  have f4 := rr.free 4
  have r5 := rr.cell 5
  have f5 := rr.free 5
  have lw := rr.lt
  have lx := xr.lt
  have HRR := hide rr
  have HBW := hide hbW
  clear hq lr lr' hE hES hbW rr xr
  cases ok with
  | true =>
    go_region
    all_goals go_wp2_with fail
    refine bodyPost_ret (v := .tuple #[stpV ⟨8, ⟨#[]⟩, ⟨#[]⟩, ⟨#[]⟩, v5, []⟩ (.slice none 0 0), .bool E]) (res_stepD (put6_bk HRR.out _ _ _ _ _ _) rfl rfl) rfl ?_
    have he : stepK 8 r = if (true && E) = true then some ⟨8, ⟨#[]⟩, ⟨#[]⟩, ⟨#[]⟩, v5, []⟩ else none := by
      have hq2 := Prod.mk.inj HQ.out
      have hE2 : E = true := by rw [HES.out]; exact hq2.1
      rw [show stepK 8 r = (if (rdNum (r, true)).2 = true then some ⟨8, ⟨#[]⟩, ⟨#[]⟩, ⟨#[]⟩, (rdNum (r, true)).1, []⟩ else none) from rfl, ← HT1.out, ← hq2.2, hE2]
      rw [HV5.out hq2.2.symm]; rfl
    exact ⟨⟨⟨8, ⟨#[]⟩, ⟨#[]⟩, ⟨#[]⟩, v5, []⟩, (.slice none 0 0), E, rfl, World.ownsRow_nil _ _ _ _, he⟩, Below.drew (put6_below HBW.out (Nat.le_refl _) _ _ _ _ _ _)⟩
  | false =>
    go_region
    all_goals go_wp2_with fail
    refine bodyPost_ret (v := .tuple #[stpV ⟨8, ⟨#[]⟩, ⟨#[]⟩, ⟨#[]⟩, v5, []⟩ (.slice none 0 0), .bool false]) (res_stepD (put6_bk HRR.out _ _ _ _ _ _) rfl rfl) rfl ?_
    have he : stepK 8 r = if (false && E) = true then some ⟨8, ⟨#[]⟩, ⟨#[]⟩, ⟨#[]⟩, v5, []⟩ else none := by
      have hq2 := Prod.mk.inj HQ.out
      have hE2 : E = true := by rw [HES.out]; exact hq2.1
      rw [show stepK 8 r = (if (rdNum (r, true)).2 = true then some ⟨8, ⟨#[]⟩, ⟨#[]⟩, ⟨#[]⟩, (rdNum (r, true)).1, []⟩ else none) from rfl, ← HT1.out, ← hq2.2, hE2]
      rfl
    exact ⟨⟨⟨8, ⟨#[]⟩, ⟨#[]⟩, ⟨#[]⟩, v5, []⟩, (.slice none 0 0), false, rfl, World.ownsRow_nil _ _ _ _, he⟩, Below.drew (put6_below HBW.out (Nat.le_refl _) _ _ _ _ _ _)⟩
set_option maxRecDepth 100000 in
set_option maxHeartbeats 8000000 in
theorem step_0_9 (s : ByteArray) (w : World) (hs : s.size ≤ 100000000) (hL : Lay w) (hkk : kindB ((bl s).take (spaceI (bl s))) = 9) (hsd : Lib.indexByte (bl s) 32 = -1) :
    Calls Tryz.prog 32 #[.string s] w fun e w' => (∃ (st : Stp) (kv : Value) (b : Bool), e = .returned (.tuple #[stpV st kv, .bool b]) ∧ KpO w' w.heap.size kv st.keep ∧ stepB (bl s) = if b then some st else none) ∧ Below w.heap.size w w' := by
  obtain ⟨a, ha⟩ : ∃ a, a = spaceI (bl s) := ⟨_, rfl⟩
  have hal : a ≤ s.size := by have := space_le (bl s); rw [bl_size] at this; omega
  obtain ⟨A, hA⟩ : ∃ A, A = s.extract a s.size := ⟨_, rfl⟩
  obtain ⟨B, hB⟩ : ∃ B, B = s.extract 0 a := ⟨_, rfl⟩
  have hbA : bl A = (bl s).drop a := by rw [hA, bl_extract, List.take_of_length_le (by rw [bl_size]; exact Nat.le_refl _)]
  have hbB : bl B = (bl s).take a := by rw [hB, bl_extract, List.drop_zero]
  have hAl : A.size ≤ 100000000 := by rw [← bl_size, hbA, List.length_drop, bl_size]; omega
  have hBl : B.size ≤ 100000000 := by rw [← bl_size, hbB, List.length_take, bl_size]; omega
  have hst : stepB (bl s) = stepK (kindB (bl B)) (bl A) := by unfold stepB; rw [hbA, hbB, ha]
  rw [hst]
  have hk10 := kindB_le (bl B)
  have hkd := fun W hW => kind_any B W hBl hW
  obtain ⟨K, hK⟩ : ∃ K, K = kindB (bl B) := ⟨_, rfl⟩
  rw [← hK] at hkd hk10 ⊢
  obtain rfl : K = 9 := by rw [hK, hbB, ha]; exact hkk
  obtain ⟨r, hr⟩ : ∃ r, r = bl A := ⟨_, rfl⟩
  rw [← hr]
  have hAr : A = blB r := by rw [hr, blB_bl]
  have hrl : r.length ≤ 100000000 := by rw [hr, bl_size]; exact hAl
  have HKd := hide hkd
  have HL := hide hL
  have HAr := hide hAr
  have HrL := hide hrl
  have haw : (0 : Int) ≤ (a : Int) := by omega
  have hix : ∀ W, Calls Tryz.prog 53 #[.string s, .int .u8 32] W fun e w' => e = .returned (.int .i64 (-1)) ∧ w' = W := fun W => by
    have := Tryz.strings_IndexByte s 32 W
    rw [show Lib.indexByte s.data.toList ((32 : Int).toNat.toUInt8) = -1 from hsd] at this
    exact this
  obtain rfl : a = s.size := by
    rcases space_idx (bl s) with ⟨h1, h2⟩ | ⟨k, h1, h2, h3⟩
    · rw [ha, h2, bl_size]
    · rw [hsd] at h1; omega
  have HIx := hide hix
  have hAe : s.extract s.size s.size = A := hA.symm
  have hBe : s.extract 0 s.size = B := hB.symm
  have hIw : IntKind.i64.wrap (s.size : Int) = (s.size : Int) := IntWalk.i64_in _ ⟨by omega, by omega⟩
  clear hst hkd hkk hsd hK hr hrl hL hix hAr ha hA hB hbA hbB hAl
  obtain ⟨w0, hw0⟩ : ∃ w0, w0 = w.alloc (.cells #[.int .u8 0, .string ⟨#[]⟩, .string ⟨#[]⟩, .string ⟨#[]⟩, .int .i64 0, .slice none 0 0] 39) := ⟨_, rfl⟩
  have hb0 : Below w.heap.size w w0 := by rw [hw0]; exact ba1 _ _
  have kres : Bk w0 w.heap.size 39 #[.int .u8 0, .string ⟨#[]⟩, .string ⟨#[]⟩, .string ⟨#[]⟩, .int .i64 0, .slice none 0 0] := by rw [hw0]; exact Bk.new _ _ _
  have HW0 := hide hw0
  have HB0 := hide hb0
  have HRes := hide kres
  have hz0 : w0.heap.size = w.heap.size + 1 := by rw [hw0]; simp
  have HZ0 := hide hz0
  clear hw0 hb0 kres hz0
  go_enter Tryz.func32, Tryz.ntmps32
  have hAE : A = ByteArray.empty := by rw [← hAe]; simp
  subst hAE
  go_upto_region 4 with (go_at_call 53; rw [← HW0.out]; refine Calls.mono (HIx.out _) ?_; rintro e w1 ⟨rfl, rfl⟩)
  obtain ⟨w2, hw2⟩ : ∃ w2, w2 = w1.alloc (.cells #[.string ByteArray.empty, .bool true] 115) := ⟨_, rfl⟩
  have HW2 := hide hw2
  have hb2 : Below w.heap.size w w2 := by rw [hw2]; exact HB0.out.trans ((ba1 _ _).mono HB0.out.size)
  have kr2 : Bk w2 w1.heap.size 115 #[.string ByteArray.empty, .bool true] := by rw [hw2]; exact Bk.new _ _ _
  have ks2 := HRes.out.keep (show Below w1.heap.size w1 w2 by rw [hw2]; exact ba1 _ _)
  have HB2 := hide hb2
  have HK2 := hide kr2
  have HS2 := hide ks2
  clear hw2 hb2 kr2 ks2
  go_upto_region 6 with (go_at_call 55; rw [← HW2.out]; refine Calls.mono (HKd.out _ (HL.out.all HB2.out)) ?_; rintro e w3 ⟨rfl, hb3⟩; have HB3 := hide hb3; clear hb3)
  obtain ⟨W, hW⟩ : ∃ W, W = w3.alloc (.cells #[.int .u8 9, .string ⟨#[]⟩, .string ⟨#[]⟩, .string ⟨#[]⟩, .int .i64 0, .slice none 0 0] 39) := ⟨_, rfl⟩
  rw [← hW]
  have hst : StAt w W w1.heap.size w3.heap.size (r, true) #[.int .u8 9, .string ⟨#[]⟩, .string ⟨#[]⟩, .string ⟨#[]⟩, .int .i64 0, .slice none 0 0] := by
    have h3 := HB3.out.trans (show Below w2.heap.size w3 W by rw [hW]; exact (ba1 _ _).mono HB3.out.size)
    have hkw : Bk W w3.heap.size 39 #[.int .u8 9, .string ⟨#[]⟩, .string ⟨#[]⟩, .string ⟨#[]⟩, .int .i64 0, .slice none 0 0] := by rw [hW]; exact Bk.new _ _ _
    have hl : LrAt W w1.heap.size (r, true) := by unfold LrAt; rw [← HAr.out]; exact HK2.out.keep h3
    exact ⟨hl, hkw, HS2.out.keep h3, HB2.out.trans (h3.mono HB2.out.size), by rw [HZ0.out]; omega, Nat.lt_of_lt_of_le HK2.out.lt HB3.out.size⟩
  obtain ⟨gr, hgr⟩ : ∃ gr, gr = w1.heap.size := ⟨_, rfl⟩
  obtain ⟨gx, hgx⟩ : ∃ gx, gx = w3.heap.size := ⟨_, rfl⟩
  rw [← hgr, ← hgx] at hst
  rw [← hgr, ← hgx]
  clear hW HB3 HB2 HK2 HS2 HW2 HW0 HB0 HRes HKd HIx HZ0 hAe hBe hIw haw hal hgr hgx HAr
  clear hk10
  have HS := hide hst
  obtain ⟨lr0, x0, rs0, hb0, hlt1, hlt2⟩ := hst
  have y0 := x0.cell 0
  have lx := x0.lt
  clear lr0 x0 rs0 hb0
  obtain ⟨T1, hT1⟩ : ∃ T, T = rdNum (r, true) := ⟨_, rfl⟩
  have cT1 := fun W (h : LrAt W gr (r, true)) (hL : Lay W) (hg : 14 ≤ gr) => rnum_any gr (r, true) W h HrL.out hL hg
  rw [← hT1] at cT1
  have HCT1 := hide cT1
  have HT1 := hide hT1
  clear cT1 hT1
  have HGr := hide (show 14 ≤ gr from Nat.le_trans HL.out.size (Nat.le_of_lt hlt1))
  go_upto_region 24 with (go_at_call 57; refine Calls.mono (HCT1.out _ HS.out.1 (HL.out.all HS.out.2.2.2.1) HGr.out) ?_; rintro e w5 ⟨⟨v5, rfl, hv5⟩, hl, hf⟩; have HV5 := hide hv5; have HS5 := hide (StAt.call HS.out hf hl); have x5 := HS5.out.2.1; have fz := x5.free 4; have cz := x5.cell 4; have lz := x5.lt; clear hl hf x5 hv5)
  obtain ⟨W0, hW0⟩ : ∃ W', W' = w5.setCell ⟨gx, 4, none⟩ (.int .i64 v5) := ⟨_, rfl⟩
  rw [← hW0]
  have hs0 := StAt.set HS5.out 4 (.int .i64 v5)
  rw [← hW0] at hs0
  have HS := hide hs0
  clear hW0 hs0 fz cz lz HS5
  obtain ⟨q, hq⟩ : ∃ q, q = (([] : List UInt8), T1.2) := ⟨_, rfl⟩
  have hsf := HS.out
  rw [← hq] at hsf
  obtain ⟨S, ok⟩ := q
  have HQ := hide hq
  obtain ⟨lr, xr, rr, hbW, _, _⟩ := hsf
  have lr' : Bk W0 gr 115 #[.string (blB S), .bool ok] := lr
  obtain ⟨l0, l1⟩ := two_cells lr'
  obtain ⟨E, hE⟩ : ∃ E, E = (blB S).toList.isEmpty := ⟨_, rfl⟩
  have hE' : (blB S).toList.isEmpty = E := hE.symm
  have hES : (E = true) = (S = []) := by rw [hE, isEmpty_str, blB_size, decide_eq_true_eq, List.length_eq_zero_iff]
  have HES := hide hES
  have x0 := xr.cell 0
  have x1 := xr.cell 1
  have x2 := xr.cell 2
  have x3 := xr.cell 3
  have x4 := xr.cell 4
  have x5 := xr.cell 5
  have r0 := rr.cell 0
  have f0 := rr.free 0
  have r1 := rr.cell 1
  have f1 := rr.free 1
  have r2 := rr.cell 2
  have f2 := rr.free 2
  have r3 := rr.cell 3
  have f3 := rr.free 3
  have r4 := rr.cell 4
  have f4 := rr.free 4
  have r5 := rr.cell 5
  have f5 := rr.free 5
  have lw := rr.lt
  have lx := xr.lt
  have HRR := hide rr
  have HBW := hide hbW
  clear hq lr lr' hE hES hbW rr xr
  cases ok with
  | true =>
    go_region
    all_goals go_wp2_with fail
    refine bodyPost_ret (v := .tuple #[stpV ⟨9, ⟨#[]⟩, ⟨#[]⟩, ⟨#[]⟩, v5, []⟩ (.slice none 0 0), .bool E]) (res_stepD (put6_bk HRR.out _ _ _ _ _ _) rfl rfl) rfl ?_
    have he : stepK 9 r = if (true && E) = true then some ⟨9, ⟨#[]⟩, ⟨#[]⟩, ⟨#[]⟩, v5, []⟩ else none := by
      have hq2 := Prod.mk.inj HQ.out
      have hE2 : E = true := by rw [HES.out]; exact hq2.1
      rw [show stepK 9 r = (if (rdNum (r, true)).2 = true then some ⟨9, ⟨#[]⟩, ⟨#[]⟩, ⟨#[]⟩, (rdNum (r, true)).1, []⟩ else none) from rfl, ← HT1.out, ← hq2.2, hE2]
      rw [HV5.out hq2.2.symm]; rfl
    exact ⟨⟨⟨9, ⟨#[]⟩, ⟨#[]⟩, ⟨#[]⟩, v5, []⟩, (.slice none 0 0), E, rfl, World.ownsRow_nil _ _ _ _, he⟩, Below.drew (put6_below HBW.out (Nat.le_refl _) _ _ _ _ _ _)⟩
  | false =>
    go_region
    all_goals go_wp2_with fail
    refine bodyPost_ret (v := .tuple #[stpV ⟨9, ⟨#[]⟩, ⟨#[]⟩, ⟨#[]⟩, v5, []⟩ (.slice none 0 0), .bool false]) (res_stepD (put6_bk HRR.out _ _ _ _ _ _) rfl rfl) rfl ?_
    have he : stepK 9 r = if (false && E) = true then some ⟨9, ⟨#[]⟩, ⟨#[]⟩, ⟨#[]⟩, v5, []⟩ else none := by
      have hq2 := Prod.mk.inj HQ.out
      have hE2 : E = true := by rw [HES.out]; exact hq2.1
      rw [show stepK 9 r = (if (rdNum (r, true)).2 = true then some ⟨9, ⟨#[]⟩, ⟨#[]⟩, ⟨#[]⟩, (rdNum (r, true)).1, []⟩ else none) from rfl, ← HT1.out, ← hq2.2, hE2]
      rfl
    exact ⟨⟨⟨9, ⟨#[]⟩, ⟨#[]⟩, ⟨#[]⟩, v5, []⟩, (.slice none 0 0), false, rfl, World.ownsRow_nil _ _ _ _, he⟩, Below.drew (put6_below HBW.out (Nat.le_refl _) _ _ _ _ _ _)⟩
set_option maxRecDepth 100000 in
set_option maxHeartbeats 8000000 in
theorem step_0_10 (s : ByteArray) (w : World) (hs : s.size ≤ 100000000) (hL : Lay w) (hkk : kindB ((bl s).take (spaceI (bl s))) = 10) (hsd : Lib.indexByte (bl s) 32 = -1) :
    Calls Tryz.prog 32 #[.string s] w fun e w' => (∃ (st : Stp) (kv : Value) (b : Bool), e = .returned (.tuple #[stpV st kv, .bool b]) ∧ KpO w' w.heap.size kv st.keep ∧ stepB (bl s) = if b then some st else none) ∧ Below w.heap.size w w' := by
  obtain ⟨a, ha⟩ : ∃ a, a = spaceI (bl s) := ⟨_, rfl⟩
  have hal : a ≤ s.size := by have := space_le (bl s); rw [bl_size] at this; omega
  obtain ⟨A, hA⟩ : ∃ A, A = s.extract a s.size := ⟨_, rfl⟩
  obtain ⟨B, hB⟩ : ∃ B, B = s.extract 0 a := ⟨_, rfl⟩
  have hbA : bl A = (bl s).drop a := by rw [hA, bl_extract, List.take_of_length_le (by rw [bl_size]; exact Nat.le_refl _)]
  have hbB : bl B = (bl s).take a := by rw [hB, bl_extract, List.drop_zero]
  have hAl : A.size ≤ 100000000 := by rw [← bl_size, hbA, List.length_drop, bl_size]; omega
  have hBl : B.size ≤ 100000000 := by rw [← bl_size, hbB, List.length_take, bl_size]; omega
  have hst : stepB (bl s) = stepK (kindB (bl B)) (bl A) := by unfold stepB; rw [hbA, hbB, ha]
  rw [hst]
  have hk10 := kindB_le (bl B)
  have hkd := fun W hW => kind_any B W hBl hW
  obtain ⟨K, hK⟩ : ∃ K, K = kindB (bl B) := ⟨_, rfl⟩
  rw [← hK] at hkd hk10 ⊢
  obtain rfl : K = 10 := by rw [hK, hbB, ha]; exact hkk
  obtain ⟨r, hr⟩ : ∃ r, r = bl A := ⟨_, rfl⟩
  rw [← hr]
  have hAr : A = blB r := by rw [hr, blB_bl]
  have hrl : r.length ≤ 100000000 := by rw [hr, bl_size]; exact hAl
  have HKd := hide hkd
  have HL := hide hL
  have HAr := hide hAr
  have HrL := hide hrl
  have haw : (0 : Int) ≤ (a : Int) := by omega
  have hix : ∀ W, Calls Tryz.prog 53 #[.string s, .int .u8 32] W fun e w' => e = .returned (.int .i64 (-1)) ∧ w' = W := fun W => by
    have := Tryz.strings_IndexByte s 32 W
    rw [show Lib.indexByte s.data.toList ((32 : Int).toNat.toUInt8) = -1 from hsd] at this
    exact this
  obtain rfl : a = s.size := by
    rcases space_idx (bl s) with ⟨h1, h2⟩ | ⟨k, h1, h2, h3⟩
    · rw [ha, h2, bl_size]
    · rw [hsd] at h1; omega
  have HIx := hide hix
  have hAe : s.extract s.size s.size = A := hA.symm
  have hBe : s.extract 0 s.size = B := hB.symm
  have hIw : IntKind.i64.wrap (s.size : Int) = (s.size : Int) := IntWalk.i64_in _ ⟨by omega, by omega⟩
  clear hst hkd hkk hsd hK hr hrl hL hix hAr ha hA hB hbA hbB hAl
  obtain ⟨w0, hw0⟩ : ∃ w0, w0 = w.alloc (.cells #[.int .u8 0, .string ⟨#[]⟩, .string ⟨#[]⟩, .string ⟨#[]⟩, .int .i64 0, .slice none 0 0] 39) := ⟨_, rfl⟩
  have hb0 : Below w.heap.size w w0 := by rw [hw0]; exact ba1 _ _
  have kres : Bk w0 w.heap.size 39 #[.int .u8 0, .string ⟨#[]⟩, .string ⟨#[]⟩, .string ⟨#[]⟩, .int .i64 0, .slice none 0 0] := by rw [hw0]; exact Bk.new _ _ _
  have HW0 := hide hw0
  have HB0 := hide hb0
  have HRes := hide kres
  have hz0 : w0.heap.size = w.heap.size + 1 := by rw [hw0]; simp
  have HZ0 := hide hz0
  clear hw0 hb0 kres hz0
  go_enter Tryz.func32, Tryz.ntmps32
  have hAE : A = ByteArray.empty := by rw [← hAe]; simp
  subst hAE
  go_upto_region 4 with (go_at_call 53; rw [← HW0.out]; refine Calls.mono (HIx.out _) ?_; rintro e w1 ⟨rfl, rfl⟩)
  obtain ⟨w2, hw2⟩ : ∃ w2, w2 = w1.alloc (.cells #[.string ByteArray.empty, .bool true] 115) := ⟨_, rfl⟩
  have HW2 := hide hw2
  have hb2 : Below w.heap.size w w2 := by rw [hw2]; exact HB0.out.trans ((ba1 _ _).mono HB0.out.size)
  have kr2 : Bk w2 w1.heap.size 115 #[.string ByteArray.empty, .bool true] := by rw [hw2]; exact Bk.new _ _ _
  have ks2 := HRes.out.keep (show Below w1.heap.size w1 w2 by rw [hw2]; exact ba1 _ _)
  have HB2 := hide hb2
  have HK2 := hide kr2
  have HS2 := hide ks2
  clear hw2 hb2 kr2 ks2
  go_upto_region 6 with (go_at_call 55; rw [← HW2.out]; refine Calls.mono (HKd.out _ (HL.out.all HB2.out)) ?_; rintro e w3 ⟨rfl, hb3⟩; have HB3 := hide hb3; clear hb3)
  obtain ⟨W, hW⟩ : ∃ W, W = w3.alloc (.cells #[.int .u8 10, .string ⟨#[]⟩, .string ⟨#[]⟩, .string ⟨#[]⟩, .int .i64 0, .slice none 0 0] 39) := ⟨_, rfl⟩
  rw [← hW]
  have hst : StAt w W w1.heap.size w3.heap.size (r, true) #[.int .u8 10, .string ⟨#[]⟩, .string ⟨#[]⟩, .string ⟨#[]⟩, .int .i64 0, .slice none 0 0] := by
    have h3 := HB3.out.trans (show Below w2.heap.size w3 W by rw [hW]; exact (ba1 _ _).mono HB3.out.size)
    have hkw : Bk W w3.heap.size 39 #[.int .u8 10, .string ⟨#[]⟩, .string ⟨#[]⟩, .string ⟨#[]⟩, .int .i64 0, .slice none 0 0] := by rw [hW]; exact Bk.new _ _ _
    have hl : LrAt W w1.heap.size (r, true) := by unfold LrAt; rw [← HAr.out]; exact HK2.out.keep h3
    exact ⟨hl, hkw, HS2.out.keep h3, HB2.out.trans (h3.mono HB2.out.size), by rw [HZ0.out]; omega, Nat.lt_of_lt_of_le HK2.out.lt HB3.out.size⟩
  obtain ⟨gr, hgr⟩ : ∃ gr, gr = w1.heap.size := ⟨_, rfl⟩
  obtain ⟨gx, hgx⟩ : ∃ gx, gx = w3.heap.size := ⟨_, rfl⟩
  rw [← hgr, ← hgx] at hst
  rw [← hgr, ← hgx]
  clear hW HB3 HB2 HK2 HS2 HW2 HW0 HB0 HRes HKd HIx HZ0 hAe hBe hIw haw hal hgr hgx HAr
  clear hk10
  have HS := hide hst
  obtain ⟨lr0, x0, rs0, hb0, hlt1, hlt2⟩ := hst
  have y0 := x0.cell 0
  have lx := x0.lt
  clear lr0 x0 rs0 hb0
  obtain ⟨T1, hT1⟩ : ∃ T, T = rdKeep (r, true) := ⟨_, rfl⟩
  have cT1 := fun W (h : LrAt W gr (r, true)) => rkeep_any gr (r, true) W h HrL.out
  rw [← hT1] at cT1
  have HCT1 := hide cT1
  have HT1 := hide hT1
  clear cT1 hT1
  go_upto_region 24 with (go_at_call 58; refine Calls.mono (HCT1.out _ HS.out.1) ?_; rintro e w5 ⟨⟨kv5, rfl, hk5⟩, hl, hf⟩; obtain ⟨A5, c5, rfl⟩ := own_formk hk5; have HK5 := hide (show KpO w5 w.heap.size (.slice A5 T1.1.length c5) T1.1 from own_base hk5 (fun g hg => Nat.le_trans HS.out.2.2.2.1.size (hk5.lt g hg).1)); have HS5 := hide (StAt.call HS.out hf hl); have x5 := HS5.out.2.1; have fz := x5.free 5; have cz := x5.cell 5; have lz := x5.lt; clear hl hf x5 hk5)
  obtain ⟨W0, hW0⟩ : ∃ W', W' = w5.setCell ⟨gx, 5, none⟩ (.slice A5 T1.1.length c5) := ⟨_, rfl⟩
  rw [← hW0]
  have hs0 := StAt.set HS5.out 5 (.slice A5 T1.1.length c5)
  rw [← hW0] at hs0
  have HS := hide hs0
  have HKO := hide (show KpO W0 w.heap.size (.slice A5 T1.1.length c5) T1.1 by rw [hW0]; exact own_set HK5.out (fun e => own_ne HK5.out HS5.out.2.1 (by decide) e.symm) _)
  clear hW0 hs0 fz cz lz HS5
  obtain ⟨q, hq⟩ : ∃ q, q = (([] : List UInt8), T1.2) := ⟨_, rfl⟩
  have hsf := HS.out
  rw [← hq] at hsf
  obtain ⟨S, ok⟩ := q
  have HQ := hide hq
  obtain ⟨lr, xr, rr, hbW, _, _⟩ := hsf
  have lr' : Bk W0 gr 115 #[.string (blB S), .bool ok] := lr
  obtain ⟨l0, l1⟩ := two_cells lr'
  obtain ⟨E, hE⟩ : ∃ E, E = (blB S).toList.isEmpty := ⟨_, rfl⟩
  have hE' : (blB S).toList.isEmpty = E := hE.symm
  have hES : (E = true) = (S = []) := by rw [hE, isEmpty_str, blB_size, decide_eq_true_eq, List.length_eq_zero_iff]
  have HES := hide hES
  have x0 := xr.cell 0
  have x1 := xr.cell 1
  have x2 := xr.cell 2
  have x3 := xr.cell 3
  have x4 := xr.cell 4
  have x5 := xr.cell 5
  have r0 := rr.cell 0
  have f0 := rr.free 0
  have r1 := rr.cell 1
  have f1 := rr.free 1
  have r2 := rr.cell 2
  have f2 := rr.free 2
  have r3 := rr.cell 3
  have f3 := rr.free 3
  have r4 := rr.cell 4
  have f4 := rr.free 4
  have r5 := rr.cell 5
  have f5 := rr.free 5
  have lw := rr.lt
  have lx := xr.lt
  have HRR := hide rr
  have HBW := hide hbW
  clear hq lr lr' hE hES hbW rr xr
  cases ok with
  | true =>
    go_region
    all_goals go_wp2_with fail
    refine bodyPost_ret (v := .tuple #[stpV ⟨10, ⟨#[]⟩, ⟨#[]⟩, ⟨#[]⟩, 0, T1.1⟩ (.slice A5 T1.1.length c5), .bool E]) (res_stepD (put6_bk HRR.out _ _ _ _ _ _) rfl rfl) rfl ?_
    have he : stepK 10 r = if (true && E) = true then some ⟨10, ⟨#[]⟩, ⟨#[]⟩, ⟨#[]⟩, 0, T1.1⟩ else none := by
      have hq2 := Prod.mk.inj HQ.out
      have hE2 : E = true := by rw [HES.out]; exact hq2.1
      rw [show stepK 10 r = (if (rdKeep (r, true)).2 = true then some ⟨10, ⟨#[]⟩, ⟨#[]⟩, ⟨#[]⟩, 0, (rdKeep (r, true)).1⟩ else none) from rfl, ← HT1.out, ← hq2.2, hE2]
      rfl
    exact ⟨⟨⟨10, ⟨#[]⟩, ⟨#[]⟩, ⟨#[]⟩, 0, T1.1⟩, (.slice A5 T1.1.length c5), E, rfl, own_drew (own_put6 HKO.out (fun e => own_ne HKO.out HRR.out (by decide) e.symm) _ _ _ _ _ _), he⟩, Below.drew (put6_below HBW.out (Nat.le_refl _) _ _ _ _ _ _)⟩
  | false =>
    go_region
    all_goals go_wp2_with fail
    refine bodyPost_ret (v := .tuple #[stpV ⟨10, ⟨#[]⟩, ⟨#[]⟩, ⟨#[]⟩, 0, T1.1⟩ (.slice A5 T1.1.length c5), .bool false]) (res_stepD (put6_bk HRR.out _ _ _ _ _ _) rfl rfl) rfl ?_
    have he : stepK 10 r = if (false && E) = true then some ⟨10, ⟨#[]⟩, ⟨#[]⟩, ⟨#[]⟩, 0, T1.1⟩ else none := by
      have hq2 := Prod.mk.inj HQ.out
      have hE2 : E = true := by rw [HES.out]; exact hq2.1
      rw [show stepK 10 r = (if (rdKeep (r, true)).2 = true then some ⟨10, ⟨#[]⟩, ⟨#[]⟩, ⟨#[]⟩, 0, (rdKeep (r, true)).1⟩ else none) from rfl, ← HT1.out, ← hq2.2, hE2]
      rfl
    exact ⟨⟨⟨10, ⟨#[]⟩, ⟨#[]⟩, ⟨#[]⟩, 0, T1.1⟩, (.slice A5 T1.1.length c5), false, rfl, own_drew (own_put6 HKO.out (fun e => own_ne HKO.out HRR.out (by decide) e.symm) _ _ _ _ _ _), he⟩, Below.drew (put6_below HBW.out (Nat.le_refl _) _ _ _ _ _ _)⟩
end Go.Proofs.YtahnnebpadbopaaGreatDoor
