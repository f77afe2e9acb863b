/- Lemmas for the row: RecsW, RecsV. -/
import Derived.Test.YtmopegpkoedgbaaGreatDoorM18
import Derived.Test.YtmopegpkoedgbaaGreatDoorM25
set_option linter.unusedVariables false
set_option linter.unusedSimpArgs false
/- Walks: recs.refused, recs.Write. -/
namespace Go.Proofs.YtmopegpkoedgbaaGreatDoor
open Go.RowKit Go.Sort

set_option maxRecDepth 100000 in
set_option maxHeartbeats 4000000 in
theorem refused_any (v : Value) (d : Dsk) (w : World) (hv : Dv w w.heap.size v d) (hz : SzD d) :
    Calls Tryz.prog 67 #[v] w (PutA w (refusedD d)) := by
  have hop := fun (W : World) (h : Below w.heap.size w W) => open_disk v d W ((hv.below h).more h.size) hz
  obtain ⟨AE, cE, AW, cW, rfl, hE, hW⟩ := hv
  obtain ⟨W0, hW0⟩ : ∃ W0, W0 = (w.alloc (.cells #[.int .i64 d.size, .slice AE d.exts.length cE, .slice AW d.waits.length cW, .int .i64 d.fuse, .bool d.down] 25)).alloc (.cells #[.int .i64 0, .slice none 0 0, .slice none 0 0, .int .i64 0, .bool false] 25) := ⟨_, rfl⟩
  have hb0 : Below w.heap.size w W0 := by rw [hW0]; exact ba2 _ _ _
  have kr0 : Bk W0 (w.heap.size + 1) 25 #[.int .i64 0, .slice none 0 0, .slice none 0 0, .int .i64 0, .bool false] := by rw [hW0]; exact Bk.new1 _ _ _ _
  have hO := hop W0 hb0
  obtain ⟨R, hR⟩ : ∃ R, R = refusedD d := ⟨_, rfl⟩
  rw [← hR]
  unfold refusedD at hR
  obtain ⟨d0, z0, hoz⟩ : ∃ d0 z0, openD d = (d0, z0) := ⟨_, _, rfl⟩
  rw [hoz] at hO hR
  dsimp only at hR
  have HO := hide hO
  have HW0 := hide hW0
  have HB0 := hide hb0
  have HR0 := hide kr0
  have HR := hide hR
  clear hE hW hop hW0 hb0 kr0 hO hoz hR
  go_enter Tryz.func67, Tryz.ntmps67
  go_wp2_with (rw [← HW0.out]; go_at_call 72; refine Calls.mono HO.out ?_; rintro e w1 ⟨q, rfl, hd1, hb1⟩; have rz9 := HR0.out.keep hb1; obtain ⟨AE9, cE9, AW9, cW9, hq9, hd9⟩ := DvAt.out hd1 rz9; have qy0 := hq9.cell 0; have qy1 := hq9.cell 1; have qy2 := hq9.cell 2; have qy3 := hq9.cell 3; have qy4 := hq9.cell 4; have qlt := hq9.lt; have rc0 := rz9.cell 0; have rf0 := rz9.free 0; have rc1 := rz9.cell 1; have rf1 := rz9.free 1; have rc2 := rz9.cell 2; have rf2 := rz9.free 2; have rc3 := rz9.cell 3; have rf3 := rz9.free 3; have rc4 := rz9.cell 4; have rf4 := rz9.free 4; have rlt := rz9.lt; have HD9 := hide hd9; have HZ9 := hide rz9; have HB9 := hide (show Below w.heap.size w _ ∧ w.heap.size ≤ w.heap.size + 1 from ⟨HB0.out.trans (hb1.mono HB0.out.size), by omega⟩); clear hq9 hd9 rz9 hd1 hb1)
  refine bodyPost_ret (v := .tuple #[_, .int .i64 _]) (res_d2 Tryz.results67 (pt5_bk HZ9.out _ _ _ _ _) rfl rfl) rfl ?_
  exact put_end HR.out HD9.out HB9.out
/-- Rows of numbers that are read. -/
structure RowsR (w : World) (n : Nat) (vs : List Value) (ls : List (List Nat)) : Prop where
  len : vs.length = ls.length
  row : ∀ (i : Nat) (l : List Nat), ls[i]? = some l → l.length ≤ 1000000000 ∧ ∃ A c, vs[i]? = some (Value.slice A l.length c) ∧ Rd w n A (vu64 l)
def RowsAt (w : World) (n : Nat) (A : Option Addr) (ls : List (List Nat)) : Prop := ∃ vs, Rd w n A vs ∧ RowsR w n vs ls
theorem RowsAt.below {w w' : World} {n : Nat} {A : Option Addr} {ls : List (List Nat)} (h : RowsAt w n A ls) (hb : Below n w w') : RowsAt w' n A ls := by
  obtain ⟨vs, h1, h2⟩ := h
  exact ⟨vs, h1.below hb, h2.len, fun i l hl => by
    obtain ⟨a, A, c, b, d⟩ := h2.row i l hl
    exact ⟨a, A, c, b, d.below hb⟩⟩
theorem RowsAt.at_ {w : World} {n : Nat} {A : Option Addr} {ls : List (List Nat)} (h : RowsAt w n A ls) {i : Nat} {l : List Nat} (hl : ls[i]? = some l) : ∃ b o A' c, A = some ⟨b, o, none⟩ ∧ b < n ∧ w.cell? ⟨b, o + i, none⟩ = some (.slice A' l.length c) ∧ Rd w n A' (vu64 l) ∧ l.length ≤ 1000000000 := by
  obtain ⟨vs, h1, h2⟩ := h
  obtain ⟨hs, A', c, hv, hr⟩ := h2.row i l hl
  obtain ⟨b, o, e, hb, hc⟩ := h1 i _ hv
  exact ⟨b, o, A', c, e, hb, hc, hr, hs⟩
theorem drop_cons_l {α : Type} {a : List α} {k : Nat} {x : α} (h : a[k]? = some x) : a.drop k = x :: a.drop (k + 1) := by
  obtain ⟨hk, rfl⟩ := List.getElem?_eq_some_iff.1 h
  exact List.drop_eq_getElem_cons hk
theorem bodyB_cons {w : Nat} {x : List Nat} {r : List (List Nat)} : bodyB w (x :: r) = match recordB x with | none => none | some b => if x.length ≠ w then none else (bodyB w r).map (b ++ ·) := rfl
theorem recordB_byte {l b : List Nat} (h : recordB l = some b) : b = l.flatMap five ∧ ∀ y ∈ b, y < 256 := by
  unfold recordB at h
  split at h
  · cases h
  · cases h
    exact ⟨rfl, flat_byte l⟩
set_option maxRecDepth 100000 in
set_option maxHeartbeats 8000000 in
theorem write_any (v : Value) (d : Dsk) (name : ByteArray) (width : Int) (A : Option Addr) (c : Nat) (ls : List (List Nat)) (w : World) (hv : Dv w w.heap.size v d) (hz : SzD d) (hA : RowsAt w w.heap.size A ls) (hl : ls.length ≤ 1000000000) (hw : I64 width) :
    Calls Tryz.prog 39 #[v, .string name, .int .i64 width, .slice A ls.length c] w (PutA w (writeR d name width ls)) := by
  have hrf := fun W (h : Below w.heap.size w W) => refused_any v d W ((hv.below h).more h.size) hz
  have hpu := fun W (h : Below w.heap.size w W) width count body hw8 hct hbody => put_any v d name body width count W ((hv.below h).more h.size) hz hw8 hct hbody
  obtain ⟨AE, cE, AW, cW, rfl, hE, hW⟩ := hv
  obtain ⟨W0, hW0⟩ : ∃ W0, W0 = (w.alloc (.cells #[.int .i64 d.size, .slice AE d.exts.length cE, .slice AW d.waits.length cW, .int .i64 d.fuse, .bool d.down] 25)).alloc (.cells #[.int .i64 0, .slice none 0 0, .slice none 0 0, .int .i64 0, .bool false] 25) := ⟨_, rfl⟩
  have hb0 : Below w.heap.size w W0 := by rw [hW0]; exact ba2 _ _ _
  have kp0 : Bk W0 w.heap.size 25 #[.int .i64 d.size, .slice AE d.exts.length cE, .slice AW d.waits.length cW, .int .i64 d.fuse, .bool d.down] := by rw [hW0]; exact (Bk.new _ _ _).alloc _
  have kr0 : Bk W0 (w.heap.size + 1) 25 #[.int .i64 0, .slice none 0 0, .slice none 0 0, .int .i64 0, .bool false] := by rw [hW0]; exact Bk.new1 _ _ _ _
  obtain ⟨R, hR⟩ : ∃ R, R = writeR d name width ls := ⟨_, rfl⟩
  rw [← hR]
  unfold writeR at hR
  obtain ⟨hw1, hw2⟩ := hw
  have HRf := hide hrf
  have HPu := hide hpu
  have HW0 := hide hW0
  have HB0 := hide hb0
  have HP0 := hide kp0
  have HR0 := hide kr0
  have HA := hide hA
  by_cases hbad : width < 1 ∨ 8 < width ∨ 65536 < ls.length
  · rw [if_pos hbad] at hR
    have HR := hide hR
    obtain ⟨p0, p1, p2, p3, p4⟩ := five_cells kp0
    have lp := kp0.lt
    rw [hW0] at p0 p1 p2 p3 p4 lp
    clear hrf hpu hE hW hW0 hb0 kp0 kr0 hR hA
    by_cases hb1 : width < 1
    · clear hbad
      go_enter Tryz.func39, Tryz.ntmps39
      go_wp2_with (rw [← HW0.out]; go_at_call 67; refine Calls.mono (HRf.out _ HB0.out) ?_; rintro e w2 ⟨⟨v2, rfl, hdv⟩, hb2⟩; obtain ⟨AE2, cE2, AW2, cW2, rfl, h1, h2⟩ := hdv; have kr2 := HR0.out.keep hb2; have c0 := kr2.cell 0; have c1 := kr2.cell 1; have c2 := kr2.cell 2; have c3 := kr2.cell 3; have c4 := kr2.cell 4; have f0 := kr2.free 0; have f1 := kr2.free 1; have f2 := kr2.free 2; have f3 := kr2.free 3; have f4 := kr2.free 4; have rlt := kr2.lt; have HDQ := hide (show DvQ w2 _ _ from ⟨AE2, cE2, AW2, cW2, rfl, h1, h2⟩); have HR2 := hide kr2; have HB2 := hide hb2; clear h1 h2 kr2 hb2)
      refine bodyPost_ret (v := .tuple #[_, .int .i64 _]) (res_d2 Tryz.results39 (pt5_bk HR2.out _ _ _ _ _) rfl rfl) rfl ?_
      rw [HR.out]
      exact ⟨⟨_, rfl, HDQ.out.pt5 HR2.out _ _ _ _ _⟩, (HB0.out.trans (HB2.out.mono HB0.out.size)).trans ((pt5_fr w2 (w.heap.size + 1) _ _ _ _ _).toBelowB (fun k hk => by subst hk; omega) (HB0.out.trans (HB2.out.mono HB0.out.size)).size)⟩
    · by_cases hb2 : 8 < width
      · clear hbad
        go_enter Tryz.func39, Tryz.ntmps39
        go_wp2_with (rw [← HW0.out]; go_at_call 67; refine Calls.mono (HRf.out _ HB0.out) ?_; rintro e w2 ⟨⟨v2, rfl, hdv⟩, hb2⟩; obtain ⟨AE2, cE2, AW2, cW2, rfl, h1, h2⟩ := hdv; have kr2 := HR0.out.keep hb2; have c0 := kr2.cell 0; have c1 := kr2.cell 1; have c2 := kr2.cell 2; have c3 := kr2.cell 3; have c4 := kr2.cell 4; have f0 := kr2.free 0; have f1 := kr2.free 1; have f2 := kr2.free 2; have f3 := kr2.free 3; have f4 := kr2.free 4; have rlt := kr2.lt; have HDQ := hide (show DvQ w2 _ _ from ⟨AE2, cE2, AW2, cW2, rfl, h1, h2⟩); have HR2 := hide kr2; have HB2 := hide hb2; clear h1 h2 kr2 hb2)
        refine bodyPost_ret (v := .tuple #[_, .int .i64 _]) (res_d2 Tryz.results39 (pt5_bk HR2.out _ _ _ _ _) rfl rfl) rfl ?_
        rw [HR.out]
        exact ⟨⟨_, rfl, HDQ.out.pt5 HR2.out _ _ _ _ _⟩, (HB0.out.trans (HB2.out.mono HB0.out.size)).trans ((pt5_fr w2 (w.heap.size + 1) _ _ _ _ _).toBelowB (fun k hk => by subst hk; omega) (HB0.out.trans (HB2.out.mono HB0.out.size)).size)⟩
      · have hb3 : (65536 : Int) < (ls.length : Int) := by omega
        clear hbad
        go_enter Tryz.func39, Tryz.ntmps39
        go_wp2_with (rw [← HW0.out]; go_at_call 67; refine Calls.mono (HRf.out _ HB0.out) ?_; rintro e w2 ⟨⟨v2, rfl, hdv⟩, hb2⟩; obtain ⟨AE2, cE2, AW2, cW2, rfl, h1, h2⟩ := hdv; have kr2 := HR0.out.keep hb2; have c0 := kr2.cell 0; have c1 := kr2.cell 1; have c2 := kr2.cell 2; have c3 := kr2.cell 3; have c4 := kr2.cell 4; have f0 := kr2.free 0; have f1 := kr2.free 1; have f2 := kr2.free 2; have f3 := kr2.free 3; have f4 := kr2.free 4; have rlt := kr2.lt; have HDQ := hide (show DvQ w2 _ _ from ⟨AE2, cE2, AW2, cW2, rfl, h1, h2⟩); have HR2 := hide kr2; have HB2 := hide hb2; clear h1 h2 kr2 hb2)
        refine bodyPost_ret (v := .tuple #[_, .int .i64 _]) (res_d2 Tryz.results39 (pt5_bk HR2.out _ _ _ _ _) rfl rfl) rfl ?_
        rw [HR.out]
        exact ⟨⟨_, rfl, HDQ.out.pt5 HR2.out _ _ _ _ _⟩, (HB0.out.trans (HB2.out.mono HB0.out.size)).trans ((pt5_fr w2 (w.heap.size + 1) _ _ _ _ _).toBelowB (fun k hk => by subst hk; omega) (HB0.out.trans (HB2.out.mono HB0.out.size)).size)⟩
  · rw [if_neg hbad] at hR
    obtain ⟨wn, rfl⟩ : ∃ wn : Nat, width = (wn : Int) := ⟨width.toNat, by omega⟩
    rw [Int.toNat_natCast] at hR
    have hwn1 : 1 ≤ wn := by omega
    have hwn8 : wn ≤ 8 := by omega
    have hln : ls.length ≤ 65536 := by omega
    have g1 : ¬ (wn : Int) < 1 := by omega
    have g2 : ¬ (8 : Int) < (wn : Int) := by omega
    have g3 : ¬ (65536 : Int) < (ls.length : Int) := by omega
    obtain ⟨W1, hW1⟩ : ∃ W1, W1 = W0.alloc (.cells #[.pointer none, .slice none 0 0] 107) := ⟨_, rfl⟩
    have hb1 : Below W0.heap.size W0 W1 := by rw [hW1]; exact ba1 _ _
    have hbd : Bd W1 W0.heap.size [] := by rw [hW1]; exact Bd.new W0
    have hz0 : W0.heap.size = w.heap.size + 1 + 1 := by rw [hW0]; simp
    have HB1 := hide (hb0.trans (hb1.mono hb0.size))
    have HP1 := hide (kp0.keep hb1)
    have HR1 := hide (kr0.keep hb1)
    have HBd := hide hbd
    have HZ0 := hide hz0
    have HM := hide (show bodyB wn ls = (bodyB wn (ls.drop 0)).map ([] ++ ·) by simp)
    have HR := hide hR
    obtain ⟨bb, hbb⟩ : ∃ bb, bb = W0.heap.size := ⟨_, rfl⟩
    rw [← hbb] at HBd
    have HBb := hide hbb
    have HW1 := hide hW1
    clear hrf hpu hE hW hb0 kp0 kr0 hR hA hbad hw1 hw2 hb1 hbd hz0 hbb hW1 HP0 HR0 HB0
    go_enter Tryz.func39, Tryz.ntmps39
    go_upto_region 5 with (fail)
    rw [← HW0.out, ← HW1.out]
    have hbe : w.heap.size + 1 + 1 = bb := by rw [HBb.out, HZ0.out]
    simp only [hbe]
    have hbw : w.heap.size + 1 < bb := by omega
    have HBe := hide hbe
    clear hbe
    go_loopw [32] (fun iv wr => ∃ (k : Nat) (B : List Nat), iv = .int .i64 k ∧ k ≤ ls.length ∧ Hid (bodyB wn ls = (bodyB wn (ls.drop k)).map (B ++ ·)) ∧ Hid (∀ y ∈ B, y < 256) ∧ Hid (B.length = 5 * wn * k) ∧ Hid (Bd wr bb B) ∧ Hid (Bk wr w.heap.size 25 #[.int .i64 d.size, .slice AE d.exts.length cE, .slice AW d.waits.length cW, .int .i64 d.fuse, .bool d.down]) ∧ Hid (Bk wr (w.heap.size + 1) 25 #[.int .i64 0, .slice none 0 0, .slice none 0 0, .int .i64 0, .bool false]) ∧ Hid (Below w.heap.size w wr)) (fun iv _ => ls.length - (intOf iv).toNat)
    case atStart => exact ⟨0, [], rfl, Nat.zero_le _, HM, hide (fun y hy => by cases hy), hide (by simp), HBd, HP1, HR1, HB1⟩
    case round =>
      clear HM HBd HP1 HR1 HB1
      obtain ⟨k, B, rfl, hk, HM, HBy, HBl, HBd, HPr, HRr, HB⟩ := hrel
      by_cases hlt : k < ls.length
      · obtain ⟨x, hx⟩ : ∃ x, ls[k]? = some x := ⟨_, List.getElem?_eq_getElem hlt⟩
        obtain ⟨ob, oo, Ax, cx, rfl, hob, hcx, hrx, hxl⟩ := (HA.out.below HB.out).at_ hx
        have hobw : ob < wr.heap.size := World.block_lt_of_cell? wr _ hcx
        have hM := HM.out
        rw [drop_cons_l hx, bodyB_cons] at hM
        have hrc := fun W (h : Rd W wr.heap.size Ax (vu64 x)) hn => record_any Ax cx wr.heap.size x W h hn hxl
        have hsz := HB.out.size
        have HRx := hide (hrx.more hsz)
        obtain ⟨sv, hsv⟩ : ∃ sv, sv = recV x := ⟨_, rfl⟩
        rw [← hsv] at hrc
        obtain ⟨S, z⟩ := sv
        have HRc := hide hrc
        have hlI : (k : Int) < (ls.length : Int) := by omega
        clear hrc hrx hx
        cases hrb : recordB x with
        | none =>
          rw [hrb] at hM
          have hz1 : S = ⟨#[]⟩ ∧ z = 1 := by
            unfold recV at hsv
            rw [hrb] at hsv
            cases hsv
            exact ⟨rfl, rfl⟩
          obtain ⟨rfl, rfl⟩ := hz1
          have hR := HR.out
          rw [hM] at hR
          have HR3 := hide hR
          clear hM hR hsv hrb
          go_wp2_with (first
            | (go_at_call 68; refine Calls.mono (HRc.out _ HRx.out (Nat.le_refl _)) ?_; rintro e w4 ⟨rfl, hb4⟩; have kp4 := HPr.out.keep hb4; obtain ⟨p0, p1, p2, p3, p4⟩ := five_cells kp4; have lp4 := kp4.lt; have HB4 := hide hb4; have HR4 := hide (HRr.out.keep hb4); clear hb4 kp4)
            | (go_at_call 67; refine Calls.mono (HRf.out _ ((HB.out.trans (HB4.out.mono hsz)))) ?_; rintro e w2 ⟨⟨v2, rfl, hdv⟩, hb2⟩; obtain ⟨AE2, cE2, AW2, cW2, rfl, h1, h2⟩ := hdv; have kr2 := HR4.out.keep hb2; have c0 := kr2.cell 0; have c1 := kr2.cell 1; have c2 := kr2.cell 2; have c3 := kr2.cell 3; have c4 := kr2.cell 4; have f0 := kr2.free 0; have f1 := kr2.free 1; have f2 := kr2.free 2; have f3 := kr2.free 3; have f4 := kr2.free 4; have rlt := kr2.lt; have HDQ := hide (show DvQ w2 _ _ from ⟨AE2, cE2, AW2, cW2, rfl, h1, h2⟩); have HR2 := hide kr2; have HB2 := hide hb2; clear h1 h2 kr2 hb2))
          refine bodyPost_ret (v := .tuple #[_, .int .i64 _]) (res_d2 Tryz.results39 (pt5_bk HR2.out _ _ _ _ _) rfl rfl) rfl ?_
          rw [HR3.out]
          exact ⟨⟨_, rfl, HDQ.out.pt5 HR2.out _ _ _ _ _⟩, ((HB.out.trans (HB4.out.mono hsz)).trans (HB2.out.mono (HB.out.trans (HB4.out.mono hsz)).size)).trans ((pt5_fr w2 (w.heap.size + 1) _ _ _ _ _).toBelowB (fun k hk => by subst hk; omega) ((HB.out.trans (HB4.out.mono hsz)).trans (HB2.out.mono (HB.out.trans (HB4.out.mono hsz)).size)).size)⟩
        | some b =>
          rw [hrb] at hM
          obtain ⟨hb5, hb256⟩ := recordB_byte hrb
          have hz1 : S = strOf b ∧ z = 0 := by
            unfold recV at hsv
            rw [hrb] at hsv
            cases hsv
            exact ⟨rfl, rfl⟩
          obtain ⟨rfl, rfl⟩ := hz1
          dsimp only at hM
          by_cases hxw : x.length = wn
          · rw [if_neg (fun e => e hxw)] at hM
            have hbl := HBl.out
            have hbsz : b.length = 5 * wn := by rw [hb5, flat_five, hxw]
            have hsl : strL (strOf b) = b := strL_of hb256
            have hss : (strOf b).size = b.length := strOf_size b
            have hmul : 5 * wn * k ≤ 40 * 65536 := Nat.mul_le_mul (by omega) (by omega)
            have hM2 : bodyB wn ls = (bodyB wn (ls.drop (k + 1))).map ((B ++ b) ++ ·) := by
              rw [hM, Option.map_map]
              congr 1
              funext y
              simp
            have hby2 : ∀ y ∈ B ++ b, y < 256 := fun y hy => (List.mem_append.1 hy).elim (HBy.out y) (hb256 y)
            have hbl2 : (B ++ b).length = 5 * wn * (k + 1) := by rw [List.length_append, hbl, hbsz, Nat.mul_succ]
            have hbig : B.length + (strOf b).size ≤ 100000000000000 := by omega
            have hws := fun W h => bwString bb B (strOf b) W h hbig
            rw [hsl] at hws
            have hxI : ((x.length : Int) != (wn : Int)) = false := by simp; omega
            have HWs := hide hws
            have HM2 := hide hM2
            have HBy2 := hide hby2
            have HBl2 := hide hbl2
            clear hM hM2 hby2 hbl2 hws hsl hss hbig hsv hrb hb5 hb256 hbsz hbl hmul hxw
            go_wp2_with (first
              | (have hx := HB4; clear hx; go_at_call 69; refine Calls.mono (HWs.out _ (HBd.out.below HB4.out)) ?_; rintro e w5 ⟨⟨z5, rfl⟩, hbd5, hb5⟩; have HBd5 := hide hbd5; have HB5 := hide hb5; clear hbd5 hb5)
              | (go_at_call 68; refine Calls.mono (HRc.out _ HRx.out (Nat.le_refl _)) ?_; rintro e w4 ⟨rfl, hb4⟩; have HB4 := hide hb4; clear hb4))
            exact ⟨⟨k + 1, B ++ b, v_int (by omega), by omega, HM2, HBy2, HBl2, HBd5, hide ((HPr.out.keep HB4.out).below HB5.out (by omega)), hide ((HRr.out.keep HB4.out).below HB5.out (by omega)), hide ((HB.out.trans (HB4.out.mono hsz)).trans (HB5.out.mono (by omega)))⟩, by simp [intOf]; omega⟩
          · rw [if_pos hxw] at hM
            have hR := HR.out
            rw [hM] at hR
            have HR3 := hide hR
            have hxI : ((x.length : Int) != (wn : Int)) = true := by simp; omega
            clear hM hR hsv hrb hb5 hb256
            go_wp2_with (first
              | (go_at_call 68; refine Calls.mono (HRc.out _ HRx.out (Nat.le_refl _)) ?_; rintro e w4 ⟨rfl, hb4⟩; have kp4 := HPr.out.keep hb4; obtain ⟨p0, p1, p2, p3, p4⟩ := five_cells kp4; have lp4 := kp4.lt; have HB4 := hide hb4; have HR4 := hide (HRr.out.keep hb4); clear hb4 kp4)
              | (go_at_call 67; refine Calls.mono (HRf.out _ ((HB.out.trans (HB4.out.mono hsz)))) ?_; rintro e w2 ⟨⟨v2, rfl, hdv⟩, hb2⟩; obtain ⟨AE2, cE2, AW2, cW2, rfl, h1, h2⟩ := hdv; have kr2 := HR4.out.keep hb2; have c0 := kr2.cell 0; have c1 := kr2.cell 1; have c2 := kr2.cell 2; have c3 := kr2.cell 3; have c4 := kr2.cell 4; have f0 := kr2.free 0; have f1 := kr2.free 1; have f2 := kr2.free 2; have f3 := kr2.free 3; have f4 := kr2.free 4; have rlt := kr2.lt; have HDQ := hide (show DvQ w2 _ _ from ⟨AE2, cE2, AW2, cW2, rfl, h1, h2⟩); have HR2 := hide kr2; have HB2 := hide hb2; clear h1 h2 kr2 hb2))
            refine bodyPost_ret (v := .tuple #[_, .int .i64 _]) (res_d2 Tryz.results39 (pt5_bk HR2.out _ _ _ _ _) rfl rfl) rfl ?_
            rw [HR3.out]
            exact ⟨⟨_, rfl, HDQ.out.pt5 HR2.out _ _ _ _ _⟩, ((HB.out.trans (HB4.out.mono hsz)).trans (HB2.out.mono (HB.out.trans (HB4.out.mono hsz)).size)).trans ((pt5_fr w2 (w.heap.size + 1) _ _ _ _ _).toBelowB (fun k hk => by subst hk; omega) ((HB.out.trans (HB4.out.mono hsz)).trans (HB2.out.mono (HB.out.trans (HB4.out.mono hsz)).size)).size)⟩
      · obtain rfl : k = ls.length := by omega
        have hM := HM.out
        rw [List.drop_length, bodyB] at hM
        rw [Option.map_some, List.append_nil] at hM
        have hR := HR.out
        rw [hM] at hR
        dsimp only at hR
        have hBn : nats (bl (strOf B)) = B := by
          rw [← strL_blB, blB_bl]
          exact strL_of HBy.out
        have hs1 := bStr1 bb (bl (strOf B)) wr.drew (by rw [hBn]; exact HBd.out)
        rw [blB_bl] at hs1
        have hsz : (strOf B).size = eachW wn * ls.length := by
          rw [strOf_size, HBl.out]
          unfold eachW
          rw [if_neg (by omega)]
        have hpw := fun W h => HPu.out W h wn ls.length (strOf B) hwn8 hln hsz
        obtain ⟨S, hS⟩ : ∃ S, S = strOf B := ⟨_, rfl⟩
        rw [← hS] at hs1 hR hpw
        obtain ⟨⟨r1, r2⟩, hr⟩ : ∃ r, r = putD d name wn ls.length S := ⟨_, rfl⟩
        rw [← hr] at hpw hR
        have HS1 := hide hs1
        have HPw := hide hpw
        have HR3 := hide hR
        obtain ⟨p0, p1, p2, p3, p4⟩ := five_cells HPr.out
        have lp := HPr.out.lt
        have hlI : ¬ (ls.length : Int) < (ls.length : Int) := by omega
        have hsw := HB.out.size
        clear hs1 hpw hR hM hBn hsz hS hr HM
        go_upto_region 12 with (fail)
        have HSd : wr.drew.cell? ⟨w.heap.size, 0, none⟩ = some (.int .i64 d.size) ∧ wr.drew.cell? ⟨w.heap.size, 1, none⟩ = some (.slice AE d.exts.length cE) ∧ wr.drew.cell? ⟨w.heap.size, 2, none⟩ = some (.slice AW d.waits.length cW) ∧ wr.drew.cell? ⟨w.heap.size, 3, none⟩ = some (.int .i64 d.fuse) ∧ wr.drew.cell? ⟨w.heap.size, 4, none⟩ = some (.bool d.down) := ⟨p0, p1, p2, p3, p4⟩
        go_region_held3 (fun w' => w'.cell? ⟨w.heap.size, 0, none⟩ = some (.int .i64 d.size) ∧ w'.cell? ⟨w.heap.size, 1, none⟩ = some (.slice AE d.exts.length cE) ∧ w'.cell? ⟨w.heap.size, 2, none⟩ = some (.slice AW d.waits.length cW) ∧ w'.cell? ⟨w.heap.size, 3, none⟩ = some (.int .i64 d.fuse) ∧ w'.cell? ⟨w.heap.size, 4, none⟩ = some (.bool d.down))
          (first | with_reducible exact HSd | with_reducible exact HS6 | with_reducible exact HS2 | go_keep)
          ((first
            | (go_at_call 71; refine Calls.mono HS1.out ?_; rintro e w6 ⟨rfl, _, hb6⟩; have HS6 := five_cells ((show Bk wr.drew _ _ _ from HPr.out).below hb6 (by omega)); have HKp6 := hide ((show Bk wr.drew _ _ _ from HPr.out).below hb6 (by omega)); have HR6 := hide ((show Bk wr.drew _ _ _ from HRr.out).below hb6 (by omega)); have HB6 := hide ((below_drewN HB.out 1).trans (hb6.mono (by omega))); clear hb6)
            | (go_at_call 70; refine Calls.mono (HPw.out _ HB6.out) ?_; rintro e w2 ⟨⟨v2, rfl, hdv⟩, hb2⟩; obtain ⟨AE2, cE2, AW2, cW2, rfl, h1, h2⟩ := hdv; have kr2 := HR6.out.keep hb2; have c0 := kr2.cell 0; have c1 := kr2.cell 1; have c2 := kr2.cell 2; have c3 := kr2.cell 3; have c4 := kr2.cell 4; have f0 := kr2.free 0; have f1 := kr2.free 1; have f2 := kr2.free 2; have f3 := kr2.free 3; have f4 := kr2.free 4; have rlt := kr2.lt; have HS2 := five_cells (HKp6.out.keep hb2); have HDQ := hide (show DvQ w2 _ _ from ⟨AE2, cE2, AW2, cW2, rfl, h1, h2⟩); have HR2 := hide kr2; have HB2 := hide hb2; clear h1 h2 kr2 hb2)))
        all_goals go_wp2_with fail
        all_goals refine bodyPost_ret (v := .tuple #[_, .int .i64 _]) (res_d2 Tryz.results39 (pt5_bk HR2.out _ _ _ _ _) rfl rfl) rfl ?_
        all_goals rw [HR3.out]
        all_goals exact ⟨⟨_, rfl, HDQ.out.pt5 HR2.out _ _ _ _ _⟩, (HB6.out.trans (HB2.out.mono HB6.out.size)).trans ((pt5_fr w2 (w.heap.size + 1) _ _ _ _ _).toBelowB (fun k hk => by subst hk; omega) (HB6.out.trans (HB2.out.mono HB6.out.size)).size)⟩
end Go.Proofs.YtmopegpkoedgbaaGreatDoor
/- Walk: recs.Read. -/
namespace Go.Proofs.YtmopegpkoedgbaaGreatDoor
open Go.RowKit Go.Sort

/-- A body that is read: its width, whole records. -/
theorem bodyD_ok {d : Dsk} {name : ByteArray} {wd : Nat} {X : ByteArray} (h : bodyD d name false = (wd, X, 0)) : 1 ≤ wd ∧ wd ≤ 8 ∧ X.size ≤ 40 * 65536 ∧ X.size % (5 * wd) = 0 := by
  unfold bodyD at h
  split at h
  · rename_i h0; exact absurd (congrArg (fun x => x.2.2) h) h0
  · rename_i h0
    have hop : (openD d).2 = 0 := by simpa using h0
    have hr : Right d := by
      have := openD_right d
      unfold openD at this hop
      split at hop
      · rename_i hc
        rw [if_pos hc] at this
        exact this
      · cases hop
    dsimp only at h
    split at h
    · rename_i h1; exact absurd (congrArg (fun x => x.2.2) h) h1
    · rename_i h1
      split at h
      · cases h
      · rename_i h2
        split at h
        · cases h
        · obtain ⟨w0, c0, z0, hh⟩ : ∃ w0 c0 z0, headAt d name = (w0, c0, z0) := ⟨_, _, _, rfl⟩
          rw [hh] at h h1 h2
          dsimp only at h h1 h2
          have hz0 : z0 = 0 := by simpa using h1
          subst hz0
          obtain ⟨n, hn1, hn2, hn3, hn4, hn5⟩ := headAt_ok hr hh
          rw [hn1] at h
          dsimp only at h
          have hsz := readSecs_size hr (name := name) (n - 1) 1 (fun j h1 h2 => hn5 j (by omega))
          cases h
          have hw1 : 1 ≤ wd := by
            rcases Nat.eq_zero_or_pos wd with e | e
            · subst e
              simp at h2
            · exact e
          have he : eachW wd = 5 * wd := by unfold eachW; rw [if_neg (by omega)]
          have hle : eachW wd * c0 ≤ 40 * 65536 := Nat.mul_le_mul (by omega) hn3
          have hxs : ((readSecs d name (n - 1) 1).extract 0 (eachW wd * c0)).size = eachW wd * c0 := by
            rw [ByteArray.size_extract, hsz]
            omega
          refine ⟨hw1, hn2, by rw [hxs]; exact hle, ?_⟩
          rw [hxs, he]
          exact Nat.mul_mod_right _ _
set_option maxRecDepth 100000 in
set_option maxHeartbeats 4000000 in
theorem read_any (v : Value) (d : Dsk) (name : ByteArray) (w : World) (hv : Dv w w.heap.size v d) (hz : SzD d) :
    Calls Tryz.prog 14 #[v, .string name] w fun e w' => ∃ lv, e = .returned (.tuple #[.int .i64 (readR d name).1, lv, .int .i64 (readR d name).2.2]) ∧ OwnRows w' w.heap.size lv (readR d name).2.1 ∧ Below w.heap.size w w' := by
  have hb := fun W (h : Below w.heap.size w W) => body_any v d name false W ((hv.below h).more h.size) hz
  obtain ⟨AE, cE, AW, cW, rfl, hE, hW⟩ := hv
  obtain ⟨R, hR⟩ : ∃ R, R = readR d name := ⟨_, rfl⟩
  rw [← hR]
  unfold readR at hR
  dsimp only at hR
  have hok := fun (wd : Nat) (X : ByteArray) (h : bodyD d name false = (wd, X, 0)) => bodyD_ok h
  obtain ⟨⟨r1, r2, r3⟩, hr⟩ : ∃ r, r = bodyD d name false := ⟨_, rfl⟩
  rw [← hr] at hb hR hok
  have HBd := hide hb
  clear hb hr hE hW
  by_cases h0 : r3 = 0
  · subst h0
    rw [if_neg (show ¬ ((0 : Int) ≠ 0) from fun e => e rfl)] at hR
    obtain ⟨k1, k8, ks, km⟩ := hok r1 r2 rfl
    have hsp := fun W => split_any r2 r1 W (by omega) (by omega)
    have hspv : splitV r2 (r1 : Nat) = (splitB r1 (r2.size + 1) (strL r2), 0) := by
      unfold splitV
      rw [if_neg (by omega), Int.toNat_natCast, if_neg (fun e => e km)]
    rw [hspv] at hsp
    dsimp only at hR hsp
    obtain ⟨L, hL⟩ : ∃ L, L = splitB r1 (r2.size + 1) (strL r2) := ⟨_, rfl⟩
    rw [← hL] at hR hsp
    have HR := hide hR
    have HSp := hide hsp
    clear hR hsp hspv hL hok
    go_enter Tryz.func14, Tryz.ntmps14
    go_wp2_with (first
      | (go_at_call 46; refine Calls.mono (HSp.out _) ?_; rintro e w3 ⟨lv, rfl, ho3, hb3⟩; have HO3 := hide ho3; have HB3 := hide hb3; clear ho3 hb3)
      | (go_at_call 45; refine Calls.mono (HBd.out _ (by first | exact Below.refl _ _ | exact ba1 _ _)) ?_; rintro e w2 ⟨rfl, hb2⟩; have HB2 := hide (btrans (ba1 _ _) hb2); clear hb2))
    refine bodyPost_ret (v := .tuple #[.int .i64 (r1 : Nat), lv, .int .i64 0]) (by simp [results, Tryz.results14, go_sem]) rfl ?_
    rw [HR.out]
    obtain ⟨vs, o1, o2⟩ := HO3.out
    exact ⟨lv, rfl, ⟨vs, own_base o1 (fun g hg => Nat.le_trans HB2.out.size (o1.lt g hg).1), o2⟩, HB2.out.trans (HB3.out.mono HB2.out.size)⟩
  · rw [if_pos h0] at hR
    have h0b : (r3 == 0) = false := by simpa using h0
    have HR := hide hR
    clear hR hok
    go_enter Tryz.func14, Tryz.ntmps14
    go_wp2_with (go_at_call 45; refine Calls.mono (HBd.out _ (by first | exact Below.refl _ _ | exact ba1 _ _)) ?_; rintro e w2 ⟨rfl, hb2⟩; have HB2 := hide (btrans (ba1 _ _) hb2); clear hb2)
    refine bodyPost_ret (v := .tuple #[.int .i64 0, .slice none 0 0, .int .i64 r3]) (by simp [results, Tryz.results14, go_sem]) rfl ?_
    rw [HR.out]
    exact ⟨_, rfl, ⟨[], ⟨rfl, .inl ⟨rfl, rfl⟩⟩, ⟨rfl, fun i l h => by cases h⟩⟩, HB2.out⟩
end Go.Proofs.YtmopegpkoedgbaaGreatDoor
