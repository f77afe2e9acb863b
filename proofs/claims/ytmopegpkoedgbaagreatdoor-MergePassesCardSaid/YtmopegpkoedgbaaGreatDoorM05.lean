/- Lemmas for the row: DskO. -/
import Derived.Test.YtmopegpkoedgbaaGreatDoorM04
import Derived.Lib.SliceRun
set_option linter.unusedVariables false
set_option linter.unusedSimpArgs false
/- Walks: slices.Clone at extents and at writes; disk.Own. -/
namespace Go.Proofs.YtmopegpkoedgbaaGreatDoor
open Go.RowKit

theorem info_ext : (Tryz.prog.info? 77).map (fun i => (i.zero, i.size, i.bytes)) = some (some (.agg #[.string ⟨#[]⟩, .string ⟨#[]⟩]), 2, 32) := by kernel_rfl
theorem info_wt : (Tryz.prog.info? 79).map (fun i => (i.zero, i.size, i.bytes)) = some (some (.agg #[.string ⟨#[]⟩, .int .i64 0, .string ⟨#[]⟩]), 3, 40) := by kernel_rfl
theorem flatE_nil_none {w : World} {B : Nat} {l : List Ext} (h : Rd w B none (flatE l)) : l = [] := by
  cases l with
  | nil => rfl
  | cons x l => obtain ⟨b, o, e, _⟩ := h 0 _ rfl; cases e
theorem flatW_nil_none {w : World} {B : Nat} {l : List Wt} (h : Rd w B none (flatW l)) : l = [] := by
  cases l with
  | nil => rfl
  | cons x l => obtain ⟨b, o, e, _⟩ := h 0 _ rfl; cases e
theorem rd_adds {w : World} {B : Nat} {a : Addr} {xs : List Value} (h : Rd w B (some a) xs) : ∀ j u, xs[j]? = some u → w.cell? (a.add j) = some u := fun j u hj => by
  obtain ⟨b, o, e, _, hc⟩ := h j u hj
  cases e
  rw [Addr.add_lit]; exact hc
set_option maxRecDepth 100000 in
set_option maxHeartbeats 2000000 in
theorem cloneE_any (A : Option Addr) (c : Nat) (l : List Ext) (w : World) (hr : Rd w w.heap.size A (flatE l)) (hl : l.length ≤ 1000000000) :
    Calls Tryz.prog 118 #[.slice A l.length c] w fun e w' => (∃ A' c', e = .returned (.slice A' l.length c') ∧ w'.ownsRow w.heap.size 77 2 (.slice A' l.length c') l.length (flatE l)) ∧ Below w.heap.size w w' := by
  obtain ⟨i0, hi, hz0, hz1, hz2⟩ := info_parts info_ext
  have q22 : ∀ (w : World) (a : Option Addr) (n c n' c' : Nat), (binOp .eql 22 (.slice a n c) (.slice none n' c')).run Tryz.prog w = .ok (.bool a.isNone) w := fun w a n c n' c' => Lib.run_eql_slice_nil w _ _ a n c n' c' Tryz.underlying22
  have HR := hide hr
  clear hr
  cases A with
  | none =>
    obtain rfl := flatE_nil_none HR.out
    go_enter Tryz.func118, Tryz.ntmps118
    go_wp2_with fail
    go_ret
    exact ⟨⟨none, 0, rfl, World.ownsRow_nil _ _ _ _⟩, Below.refl _ _⟩
  | some a =>
    go_enter Tryz.func118, Tryz.ntmps118
    go_wp2_with (at_builtin; refine wpList_append_own _ rfl _ _ 22 rfl w.heap.size 77 i0 _ 2 32 Tryz.underlying22 hi hz0 hz1 hz2 rfl (by decide) _ _ _ rfl (World.ownsRow_made w #[] 0 (Nat.le_refl _) (Nat.zero_le _) (by simp)) a l.length c (flatE l) rfl (flatE_length l) (rd_adds (HR.out.alloc (Nat.le_refl _) _)) flatE_one (by unfold maxLen; omega) (by omega) (by simp) ?_; intro v2 w2 hown2 hgr2 _; rw [Nat.zero_add, List.nil_append] at hown2; have HO2 := hide hown2; have HG2 := hide hgr2; clear hown2 hgr2)
    go_ret
    obtain ⟨A', c', rfl⟩ := own_formk HO2.out
    exact ⟨⟨A', c', rfl, HO2.out⟩, (ba1 w _).grown HG2.out (by simp) (fun k hk => Nat.le_of_eq (Option.some.inj hk))⟩
set_option maxRecDepth 100000 in
set_option maxHeartbeats 2000000 in
theorem cloneW_any (A : Option Addr) (c : Nat) (l : List Wt) (w : World) (hr : Rd w w.heap.size A (flatW l)) (hl : l.length ≤ 1000000000) :
    Calls Tryz.prog 119 #[.slice A l.length c] w fun e w' => (∃ A' c', e = .returned (.slice A' l.length c') ∧ w'.ownsRow w.heap.size 79 3 (.slice A' l.length c') l.length (flatW l)) ∧ Below w.heap.size w w' := by
  obtain ⟨i0, hi, hz0, hz1, hz2⟩ := info_parts info_wt
  have q22 : ∀ (w : World) (a : Option Addr) (n c n' c' : Nat), (binOp .eql 23 (.slice a n c) (.slice none n' c')).run Tryz.prog w = .ok (.bool a.isNone) w := fun w a n c n' c' => Lib.run_eql_slice_nil w _ _ a n c n' c' Tryz.underlying23
  have HR := hide hr
  clear hr
  cases A with
  | none =>
    obtain rfl := flatW_nil_none HR.out
    go_enter Tryz.func119, Tryz.ntmps119
    go_wp2_with fail
    go_ret
    exact ⟨⟨none, 0, rfl, World.ownsRow_nil _ _ _ _⟩, Below.refl _ _⟩
  | some a =>
    go_enter Tryz.func119, Tryz.ntmps119
    go_wp2_with (at_builtin; refine wpList_append_own _ rfl _ _ 23 rfl w.heap.size 79 i0 _ 3 40 Tryz.underlying23 hi hz0 hz1 hz2 rfl (by decide) _ _ _ rfl (World.ownsRow_made w #[] 0 (Nat.le_refl _) (Nat.zero_le _) (by simp)) a l.length c (flatW l) rfl (flatW_length l) (rd_adds (HR.out.alloc (Nat.le_refl _) _)) flatW_one (by unfold maxLen; omega) (by omega) (by simp) ?_; intro v2 w2 hown2 hgr2 _; rw [Nat.zero_add, List.nil_append] at hown2; have HO2 := hide hown2; have HG2 := hide hgr2; clear hown2 hgr2)
    go_ret
    obtain ⟨A', c', rfl⟩ := own_formk HO2.out
    exact ⟨⟨A', c', rfl, HO2.out⟩, (ba1 w _).grown HG2.out (by simp) (fun k hk => Nat.le_of_eq (Option.some.inj hk))⟩
theorem own_mono {w : World} {base base' e size n : Nat} {v : Value} {xs : List Value} (h : w.ownsRow base e size v n xs) (hB : base' ≤ base) : w.ownsRow base' e size v n xs := own_base h fun g hg => Nat.le_trans hB (h.lt g hg).1
theorem own_fin {w w0 w1 w2 Wf : World} {e f a b n m : Nat} {v u : Value} {xs ys : List Value} {cs ds : Array Value} (b0 : Below w.heap.size w w0) (b1 : Below w0.heap.size w0 w1) (b2 : Below w1.heap.size w1 w2) (hf : Fr (fun g => g = w.heap.size ∨ g = w.heap.size + 1) w2 Wf)
    (hx : w1.ownsRow w0.heap.size e a v n xs) (hy : w2.ownsRow w1.heap.size f b u m ys) (k0 : Bk w2 w.heap.size 25 cs) (k1 : Bk w2 (w.heap.size + 1) 25 ds) (he : e ≠ 25) (hF : f ≠ 25) :
    Wf.ownsRow w.heap.size e a v n xs ∧ Wf.ownsRow w.heap.size f b u m ys ∧ Below w.heap.size w Wf := by
  have hx2 := own_keep hx b2
  refine ⟨own_mono (own_fr hx2 hf ?_) b0.size, own_mono (own_fr hy hf ?_) (btrans b0 b1).size, ?_⟩
  · rintro g hg (rfl | rfl)
    · exact own_ne hx2 k0 he hg.symm
    · exact own_ne hx2 k1 he hg.symm
  · rintro g hg (rfl | rfl)
    · exact own_ne hy k0 hF hg.symm
    · exact own_ne hy k1 hF hg.symm
  · exact (btrans (btrans b0 b1) b2).trans (Fr.toBelowB hf (by rintro g (rfl | rfl) <;> omega) ((btrans (btrans b0 b1) b2).size))
theorem own_finE {w w0 w1 w2 Wf : World} {n m cE cW : Nat} {AE AW : Option Addr} {z fu : Int} {dn : Bool} {xs ys : List Value} {cs ds : Array Value} (b0 : Below w.heap.size w w0) (b1 : Below w0.heap.size w0 w1) (b2 : Below w1.heap.size w1 w2) (hf : Fr (fun g => g = w.heap.size ∨ g = w.heap.size + 1) w2 Wf)
    (hx : w1.ownsRow w0.heap.size 77 2 (.slice AE n cE) n xs) (hy : w2.ownsRow w1.heap.size 79 3 (.slice AW m cW) m ys) (k0 : Bk w2 w.heap.size 25 cs) (k1 : Bk w2 (w.heap.size + 1) 25 ds) :
    (∃ A c A' c', Ending.returned (.agg #[.int .i64 z, .slice AE n cE, .slice AW m cW, .int .i64 fu, .bool dn]) = .returned (.agg #[.int .i64 z, .slice A n c, .slice A' m c', .int .i64 fu, .bool dn]) ∧ Wf.ownsRow w.heap.size 77 2 (.slice A n c) n xs ∧ Wf.ownsRow w.heap.size 79 3 (.slice A' m c') m ys) ∧ Below w.heap.size w Wf := by
  obtain ⟨r1, r2, r3⟩ := own_fin b0 b1 b2 hf hx hy k0 k1 (by decide) (by decide)
  exact ⟨⟨_, _, _, _, rfl, r1, r2⟩, r3⟩
theorem own_finW {w w0 w1 w2 Wf : World} {n m cE cW : Nat} {AE AW : Option Addr} {z fu : Int} {dn : Bool} {xs ys : List Value} {cs ds : Array Value} (b0 : Below w.heap.size w w0) (b1 : Below w0.heap.size w0 w1) (b2 : Below w1.heap.size w1 w2) (hf : Fr (fun g => g = w.heap.size ∨ g = w.heap.size + 1) w2 Wf)
    (hy : w1.ownsRow w0.heap.size 79 3 (.slice AW m cW) m ys) (hx : w2.ownsRow w1.heap.size 77 2 (.slice AE n cE) n xs) (k0 : Bk w2 w.heap.size 25 cs) (k1 : Bk w2 (w.heap.size + 1) 25 ds) :
    (∃ A c A' c', Ending.returned (.agg #[.int .i64 z, .slice AE n cE, .slice AW m cW, .int .i64 fu, .bool dn]) = .returned (.agg #[.int .i64 z, .slice A n c, .slice A' m c', .int .i64 fu, .bool dn]) ∧ Wf.ownsRow w.heap.size 77 2 (.slice A n c) n xs ∧ Wf.ownsRow w.heap.size 79 3 (.slice A' m c') m ys) ∧ Below w.heap.size w Wf := by
  obtain ⟨r1, r2, r3⟩ := own_fin b0 b1 b2 hf hy hx k0 k1 (by decide) (by decide)
  exact ⟨⟨_, _, _, _, rfl, r2, r1⟩, r3⟩
set_option maxRecDepth 100000 in
set_option maxHeartbeats 2000000 in
theorem own_any (v : Value) (d : Dsk) (w : World) (hv : Dv w w.heap.size v d) (h1 : d.exts.length ≤ 1000000000) (h2 : d.waits.length ≤ 1000000000) :
    Calls Tryz.prog 76 #[v] w fun e w' => (∃ A c A' c', e = .returned (.agg #[.int .i64 d.size, .slice A d.exts.length c, .slice A' d.waits.length c', .int .i64 d.fuse, .bool d.down]) ∧ w'.ownsRow w.heap.size 77 2 (.slice A d.exts.length c) d.exts.length (flatE d.exts) ∧ w'.ownsRow w.heap.size 79 3 (.slice A' d.waits.length c') d.waits.length (flatW d.waits)) ∧ Below w.heap.size w w' := by
  obtain ⟨AE, cE, AW, cW, rfl, hE, hW⟩ := hv
  have qE := fun (W : World) (h : Below w.heap.size w W) => cloneE_any AE cE d.exts W ((hE.below h).more h.size) h1
  have qW := fun (W : World) (h : Below w.heap.size w W) => cloneW_any AW cW d.waits W ((hW.below h).more h.size) h2
  have HCE := hide qE
  have HCW := hide qW
  obtain ⟨w0, hw0⟩ : ∃ w0, w0 = (w.alloc (.cells #[.int .i64 d.size, .slice AE d.exts.length cE, .slice AW d.waits.length cW, .int .i64 d.fuse, .bool d.down] 25)).alloc (.cells #[.int .i64 0, .slice none 0 0, .slice none 0 0, .int .i64 0, .bool false] 25) := ⟨_, rfl⟩
  have hb0 : Below w.heap.size w w0 := by rw [hw0]; exact ba2 _ _ _
  have hk0 : Bk w0 w.heap.size 25 #[.int .i64 d.size, .slice AE d.exts.length cE, .slice AW d.waits.length cW, .int .i64 d.fuse, .bool d.down] := by rw [hw0]; exact (Bk.new _ _ _).alloc _
  have hk1 : Bk w0 (w.heap.size + 1) 25 #[.int .i64 0, .slice none 0 0, .slice none 0 0, .int .i64 0, .bool false] := by rw [hw0]; exact Bk.new1 _ _ _ _
  clear hE hW qE qW
  go_enter Tryz.func76, Tryz.ntmps76
  go_wp2_with fail
  rw [← hw0]
  obtain ⟨c0, c1, c2, c3, c4⟩ := five_cells hk0
  have HB0 := hide hb0
  have HK0 := hide hk0
  have HK1 := hide hk1
  clear hb0 hk0 hk1 hw0
  go_region_law (first
   | (go_simp; go_at_call 118
      refine Calls.mono (HCE.out _ (by first | exact HB0.out.drew | exact btrans HB0.out.drew HbW.out)) ?_
      rintro e wE ⟨⟨AE', cE', rfl, hoE⟩, hbE⟩
      have hkE : Bk wE w.heap.size 25 #[.int .i64 d.size, .slice AE d.exts.length cE, .slice AW d.waits.length cW, .int .i64 d.fuse, .bool d.down] := Bk.keep (by first | exact HK0.out.drew | exact HkW.out) hbE
      obtain ⟨e0, e1, e2, e3, e4⟩ := five_cells hkE
      have hlE : Bk wE (w.heap.size + 1) 25 #[.int .i64 0, .slice none 0 0, .slice none 0 0, .int .i64 0, .bool false] := Bk.keep (by first | exact HK1.out.drew | exact HlW.out) hbE
      obtain ⟨l0, l1, l2, l3, l4⟩ := five_cells hlE
      obtain ⟨zl0, zl1, zl2, zl3, zl4⟩ := five_free hlE
      have HlE := hide hlE
      have fE1 := hkE.free 1
      have fE2 := hkE.free 2
      have HkE := hide hkE
      have HbE := hide hbE
      have HoE := hide hoE
      clear hkE hbE hoE hlE)
   | (go_simp; go_at_call 119
      refine Calls.mono (HCW.out _ (by first | exact HB0.out.drew | exact btrans HB0.out.drew HbE.out)) ?_
      rintro e wW ⟨⟨AW', cW', rfl, hoW⟩, hbW⟩
      have hkW : Bk wW w.heap.size 25 #[.int .i64 d.size, .slice AE d.exts.length cE, .slice AW d.waits.length cW, .int .i64 d.fuse, .bool d.down] := Bk.keep (by first | exact HK0.out.drew | exact HkE.out) hbW
      obtain ⟨d0, d1, d2, d3, d4⟩ := five_cells hkW
      have hlW : Bk wW (w.heap.size + 1) 25 #[.int .i64 0, .slice none 0 0, .slice none 0 0, .int .i64 0, .bool false] := Bk.keep (by first | exact HK1.out.drew | exact HlE.out) hbW
      obtain ⟨m0, m1, m2, m3, m4⟩ := five_cells hlW
      obtain ⟨zm0, zm1, zm2, zm3, zm4⟩ := five_free hlW
      have HlW := hide hlW
      have fW1 := hkW.free 1
      have fW2 := hkW.free 2
      have HkW := hide hkW
      have HbW := hide hbW
      have HoW := hide hoW
      clear hkW hbW hoW hlW))
  all_goals
    go_wp2_with fail
    refine bodyPost_ret (v := .agg #[.int .i64 d.size, .slice AE' d.exts.length cE', .slice AW' d.waits.length cW', .int .i64 d.fuse, .bool d.down]) (by simp [results, Tryz.results76, go_sem, m0, m1, m2, m3, m4]) rfl ?_
    first
    | (refine own_finE HB0.out.drew HbE.out HbW.out ?_ HoE.out HoW.out HkW.out HlW.out
       repeat (first | with_reducible exact Fr.refl _ _ | with_reducible refine Fr.setCell ?_ (by simp) _))
    | (refine own_finW HB0.out.drew HbW.out HbE.out ?_ HoW.out HoE.out HkE.out HlE.out
       repeat (first | with_reducible exact Fr.refl _ _ | with_reducible refine Fr.setCell ?_ (by simp) _))
end Go.Proofs.YtmopegpkoedgbaaGreatDoor
