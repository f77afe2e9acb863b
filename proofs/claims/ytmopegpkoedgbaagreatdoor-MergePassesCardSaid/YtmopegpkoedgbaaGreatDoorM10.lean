/- Lemmas for the row: DskSy, InsA. -/
import Derived.Test.YtmopegpkoedgbaaGreatDoorM03
import Derived.Test.YtmopegpkoedgbaaGreatDoorM09
import Derived.Lib.ConvBytes
import Derived.Lib.LazyBuf
set_option linter.unusedVariables false
set_option linter.unusedSimpArgs false
/- Walks: (*disk.Dev).settle, where all is kept; Sync. -/
namespace Go.Proofs.YtmopegpkoedgbaaGreatDoor
open Go.RowKit Go.Sort

/-- A text's bytes lie in a block, none frozen. -/
def Hs (w : World) (g : Nat) (s : ByteArray) : Prop := ∀ i, i < s.size → w.cell? ⟨g, i, none⟩ = some (.int .u8 (byt s i : Nat)) ∧ w.frozen? ⟨g, i, none⟩ = false
theorem list_byt (s : ByteArray) {i : Nat} (h : i < s.size) : (s.data.toList.getD i 0).toNat = byt s i := by
  rw [← byt_of s h]
  have : s.data.toList.getD i 0 = s[i]'h := by
    rw [List.getD_eq_getElem?_getD, Array.getElem?_toList]
    have : s.data[i]? = some (s[i]'h) := Array.getElem?_eq_getElem (xs := s.data) h
    rw [this]; rfl
  rw [this]
theorem Hs.new (w : World) (e : TypeId) (s : ByteArray) : Hs (Lib.bytesWorld w e s) w.heap.size s := fun i hi => by
  constructor
  · rw [Lib.bytesWorld_cell w e s i hi, list_byt s hi]
  · have := Lib.bytesWorld_at_new w e s
    simp only [World.frozen?, this]
    have hb : s.size ≤ (Lib.bytesCells w e s).size := by unfold Lib.bytesCells; simp
    have : ¬ (Lib.bytesCells w e s).size ≤ i := by omega
    simp [this]
theorem Hs.keep {w w' : World} {g : Nat} {s : ByteArray} {n : Nat} (h : Hs w g s) (hb : Below n w w') (hg : g < n) : Hs w' g s := fun i hi => ⟨(hb.cell (p := ⟨g, i, none⟩) hg).trans (h i hi).1, (hb.frozen (p := ⟨g, i, none⟩) hg).trans (h i hi).2⟩
theorem Hs.rd {w : World} {g : Nat} {s : ByteArray} (h : Hs w g s) : Rd w w.heap.size (some ⟨g, 0, none⟩) (vby (strL s)) := fun i u hu => by
  unfold vby at hu
  rw [List.getElem?_map] at hu
  have hi : i < s.size := by
    rcases Nat.lt_or_ge i s.size with h | h
    · exact h
    · rw [List.getElem?_eq_none (by simpa using h)] at hu; cases hu
  rw [strL_get hi] at hu
  cases hu
  have := (h i hi).1
  exact ⟨g, 0, rfl, World.block_lt_of_cell? w _ this, by rw [Nat.zero_add]; exact this⟩
/-- Bytes laid into them. -/
theorem Hs.lay_ {w : World} {g k : Nat} {b s : ByteArray} (h : Hs w g b) (hf : k + s.size ≤ b.size) : Hs (w.setCells g k (s.data.toList.map fun x => Value.int .u8 (x.toNat : Int))) g (lay b k s) := fun i hi => by
  have hsz := lay_size hf
  rw [hsz] at hi
  have hl : (s.data.toList.map fun x => Value.int .u8 (x.toNat : Int)).length = s.size := by rw [List.length_map, ← Lib.size_eq]
  refine ⟨?_, by rw [World.frozen?_setCells]; exact (h i hi).2⟩
  rw [lay_byt hf]
  by_cases hin : k ≤ i ∧ i < k + s.size
  · rw [if_pos hin]
    have hc := World.cell?_setCells_in g (s.data.toList.map fun x => Value.int .u8 (x.toNat : Int)) k w (fun j hj => by rw [hl] at hj; rw [(h (k + j) (by omega)).1]; rfl) (i - k) (by rw [hl]; omega)
    rw [show k + (i - k) = i by omega] at hc
    rw [hc, List.getElem_map]
    have e : s.data.toList[i - k]'(by rw [← Lib.size_eq]; omega) = s[i - k]'(by omega) := by
      rw [Array.getElem_toList]; rfl
    rw [e, byt_of]
  · rw [if_neg hin, World.cell?_setCells_out g _ _ _ ⟨g, i, none⟩ (fun _ _ => by rw [hl]; show i < k ∨ k + s.size ≤ i; omega)]
    exact (h i hi).1
/-- A cell of an own row is written. -/
theorem own_putk {w : World} {base e k n i g c : Nat} {xs : List Value} (h : w.ownsRow base e k (.slice (some ⟨g, 0, none⟩) n c) n xs) (u : Value) : (w.setCell ⟨g, i, none⟩ u).ownsRow base e k (.slice (some ⟨g, 0, none⟩) n c) n (xs.set i u) := by
  refine ⟨by rw [List.length_set]; exact h.1, .inr ?_⟩
  rcases h.2 with ⟨hv, _⟩ | ⟨g', cap, cur, hv, hb, hg, hnc, hcm, hcs, ht⟩
  · simp at hv
  · simp only [Value.slice.injEq, Option.some.injEq, Addr.mk.injEq, true_and, and_true] at hv
    obtain ⟨rfl, rfl⟩ := hv
    refine ⟨g, c, cur.setIfInBounds i u, rfl, hb, Bk.set_ (show Bk w g e cur from hg) i u, hnc, hcm, by simpa using hcs, ?_⟩
    rw [Array.toList_setIfInBounds, List.take_set, ht]
theorem own_free {w : World} {base e k n g c i : Nat} {xs : List Value} (h : w.ownsRow base e k (.slice (some ⟨g, 0, none⟩) n c) n xs) : w.frozen? ⟨g, i, none⟩ = false := by
  rcases h.2 with ⟨hv, _⟩ | ⟨g', cap, cur, hv, hb, hg, hnc, hcm, hcs, ht⟩
  · simp at hv
  · simp only [Value.slice.injEq, Option.some.injEq, Addr.mk.injEq, true_and, and_true] at hv
    obtain ⟨rfl, rfl⟩ := hv
    exact Bk.free (show Bk w g e cur from hg) i
theorem own_bk {w : World} {base e k n g c : Nat} {xs : List Value} (h : w.ownsRow base e k (.slice (some ⟨g, 0, none⟩) n c) n xs) : base ≤ g ∧ ∃ cur, Bk w g e cur := by
  rcases h.2 with ⟨hv, _⟩ | ⟨g', cap, cur, hv, hb, hg, hnc, hcm, hcs, ht⟩
  · simp at hv
  · simp only [Value.slice.injEq, Option.some.injEq, Addr.mk.injEq, true_and, and_true] at hv
    obtain ⟨rfl, rfl⟩ := hv
    exact ⟨hb, cur, hg⟩
theorem flatE_put : ∀ {l : List Ext} {k : Nat} {x : Ext} (t : ByteArray), l[k]? = some x → (flatE l).set (k * 2 + 1) (.string t) = flatE (l.set k ⟨x.nm, t⟩) := by
  intro l
  induction l with
  | nil => intro k x t h; cases h
  | cons y l ih =>
    intro k x t h
    have e : flatE (y :: l) = .string y.nm :: .string y.dt :: flatE l := rfl
    cases k with
    | zero => cases h; rfl
    | succ k =>
      have := ih (k := k) (x := x) t (by simpa using h)
      rw [e, show (k + 1) * 2 + 1 = (k * 2 + 1) + 1 + 1 by omega, List.set_cons_succ, List.set_cons_succ, this]
      rfl
/-- Extents of which the first ones are settled. -/
def partE (ws : List Wt) (l : List Ext) (i : Nat) : List Ext := (l.take i).map (settleE (fun _ => true) 0 ws) ++ l.drop i
theorem partE_get {ws : List Wt} {l : List Ext} {i : Nat} {x : Ext} (h : l[i]? = some x) : (partE ws l i)[i]? = some x := by
  have hi := (List.getElem?_eq_some_iff.1 h).1
  unfold partE
  rw [List.getElem?_append_right (by simp; omega)]
  simp
  rw [show min i l.length = i by omega, Nat.sub_self, Nat.add_zero]
  exact h
theorem partE_next {ws : List Wt} {l : List Ext} {i : Nat} {x : Ext} (h : l[i]? = some x) : partE ws l (i + 1) = (partE ws l i).set i (settleE (fun _ => true) 0 ws x) := by
  have hi := (List.getElem?_eq_some_iff.1 h).1
  unfold partE
  rw [List.take_add_one, h, List.set_append_right _ _ (by simp; omega)]
  have e : i - ((l.take i).map (settleE (fun _ => true) 0 ws)).length = 0 := by simp; omega
  rw [e, List.drop_eq_getElem_cons hi, List.set_cons_zero]
  simp
theorem partE_all (ws : List Wt) (l : List Ext) : partE ws l l.length = l.map (settleE (fun _ => true) 0 ws) := by unfold partE; simp
theorem List.set_getElem_self_of {α : Type} {l : List α} {i : Nat} {x : α} (h : l[i]? = some x) : l.set i x = l := by
  obtain ⟨hi, rfl⟩ := List.getElem?_eq_some_iff.1 h
  exact List.set_getElem_self hi
theorem settle_step {ws : List Wt} {k : Nat} {y : Wt} {acc : Ext} {r : Ext} (h : r = settleE (fun _ => true) k (ws.drop k) acc) (hy : ws[k]? = some y) : r = settleE (fun _ => true) (k + 1) (ws.drop (k + 1)) (if y.nm = acc.nm then ⟨acc.nm, lay acc.dt (64 * y.sec.toNat) y.dt⟩ else acc) := by
  obtain ⟨hk, e⟩ := List.getElem?_eq_some_iff.1 hy
  rw [List.drop_eq_getElem_cons hk, e] at h
  rw [h]
  conv => lhs; unfold settleE
  simp
theorem keepAll (n : Nat) (w : World) : Calls Tryz.prog 145 #[.int .i64 n] w fun e w' => e = .returned (.bool true) ∧ w' = w := by
  go_enter Tryz.func145, Tryz.ntmps145
  go_wp2_with fail
  go_ret
  exact ⟨rfl, rfl⟩
theorem bytes_below (w : World) (e : TypeId) (s : ByteArray) : Below w.heap.size w (Lib.bytesWorld w e s) :=
  ⟨rfl, rfl, rfl, by rw [Lib.bytesWorld_size]; omega, fun k hk => Lib.bytesWorld_at_old w e s k hk⟩
theorem Hs.lt_ {w : World} {g : Nat} {s : ByteArray} (h : Hs w g s) (hs : 0 < s.size) : g < w.heap.size := World.block_lt_of_cell? w _ (h 0 hs).1
theorem Hs.alloc {w : World} {g : Nat} {s : ByteArray} (h : Hs w g s) (o : Obj) : Hs (w.alloc o) g s := fun i hi => by
  have hl := World.block_lt_of_cell? w _ (h i hi).1
  exact ⟨(World.cell?_alloc_lt w o ⟨g, i, none⟩ hl).trans (h i hi).1, (World.frozen?_alloc_old w o ⟨g, i, none⟩ (Nat.ne_of_lt hl)).trans (h i hi).2⟩
theorem HsP {w : World} {g k : Nat} {b s : ByteArray} (h : Hs w g b) (hf : k + s.size ≤ b.size) : (∀ j, j < s.size → (w.drew.cell? ⟨g, k + j, none⟩).isSome = true) ∧ (∀ j, j < s.size → w.drew.frozen? ⟨g, k + j, none⟩ = false) :=
  ⟨fun j hj => by have := (h (k + j) (by omega)).1; show (w.cell? ⟨g, k + j, none⟩).isSome = true; rw [this]; rfl, fun j hj => (h (k + j) (by omega)).2⟩
theorem grow_le (w : World) (n c : Nat) (e : TypeId) : n ≤ grownCap w n c e := grownCap_ge _ _ _ _
theorem own_some {w : World} {base e k n c : Nat} {A : Option Addr} {xs : List Value} (h : w.ownsRow base e k (.slice A n c) n xs) (hn : 0 < n) : ∃ g, A = some ⟨g, 0, none⟩ ∧ n ≤ c := by
  rcases h.2 with ⟨hv, h0⟩ | ⟨g', cap, cur, hv, hb, hg, hnc, _⟩
  · omega
  · simp only [Value.slice.injEq] at hv
    obtain ⟨rfl, _, rfl⟩ := hv
    exact ⟨g', rfl, hnc⟩
theorem conv_text {w : World} {g c : Nat} {s : ByteArray} {n : Nat} (h : Hs w g s) (hn : s.size = n) : (convert 99 9 (.slice (some ⟨g, 0, none⟩) n c)).run Tryz.prog w = .ok (.string s) w := by
  have := run_conv Tryz.prog w 99 5 Tryz.underlying99 Tryz.underlying5 9 Tryz.underlying9 (Hs.rd h) c
  rw [strL_length, strOf_strL, hn] at this
  exact this
set_option maxRecDepth 100000 in
set_option maxHeartbeats 4000000 in
theorem settle_disk (B : Fld) (q : Nat) (d : Dsk) (w : World) (hd : DvAt w B q d) (hr : Right d) :
    Calls Tryz.prog 144 #[.pointer (some ⟨q, 0, none⟩), .func (.func 145) #[] #[]] w fun e w' => e = .returned (.tuple #[]) ∧ DvAt w' B q (syncD d) ∧ AFr DTy B w w' := by
  obtain ⟨E, W, hk, hE, hW, hqf⟩ := hd
  obtain ⟨AE, cE, rfl⟩ := own_formk hE
  obtain ⟨AW, cW, rfl⟩ := own_formk hW
  have hq := hqf.1
  have hlen := hr.len
  have hnw := hr.nwaits
  have HR := hide hr
  have HK := hide hk
  have HE := hide hE
  have HW := hide hW
  have HQF := hide hqf
  obtain ⟨c0, c1, c2, c3, c4⟩ := five_cells hk
  have q22 : ∀ (w : World) (a : Option Addr) (n c n' c' : Nat), (binOp .eql 99 (.slice a n c) (.slice none n' c')).run Tryz.prog w = .ok (.bool a.isNone) w := fun w a n c n' c' => Lib.run_eql_slice_nil w _ _ a n c n' c' Tryz.underlying99
  clear hr hk hE hW hqf
  go_enter Tryz.func144, Tryz.ntmps144
  go_wp2_with fail
  go_loopw [15] (fun s15 wr => ∃ i : Nat, s15 = .int .i64 i ∧ i ≤ d.exts.length ∧ Hid (Bk wr q 117 #[.int .i64 d.size, .slice AE d.exts.length cE, .slice AW d.waits.length cW, .int .i64 d.fuse, .bool d.down]) ∧ Hid (wr.ownsRow 0 77 2 (.slice AE d.exts.length cE) d.exts.length (flatE (partE d.waits d.exts i))) ∧ Hid (wr.ownsRow 0 79 3 (.slice AW d.waits.length cW) d.waits.length (flatW d.waits)) ∧ Hid (AFr DTy B w wr)) (fun s15 _ => d.exts.length - (intOf s15).toNat)
  case atStart => exact ⟨0, rfl, by omega, HK, HE, HW, hide (AFr.refl _ _ _)⟩
  case round =>
    clear HK HE HW c0 c1 c2 c3 c4
    obtain ⟨wO, rfl⟩ : ∃ wO, wO = wr := ⟨wr, rfl⟩
    obtain ⟨i, rfl, hi, HK, HE, HW, HF⟩ := hrel
    obtain ⟨c0, c1, c2, c3, c4⟩ := five_cells HK.out
    have hql := HK.out.lt
    by_cases hlt : i < d.exts.length
    · obtain ⟨x, hx⟩ : ∃ x, d.exts[i]? = some x := ⟨d.exts[i], List.getElem?_eq_getElem hlt⟩
      obtain ⟨gE, rfl, hcE⟩ := own_some HE.out (by omega)
      have hrdE := own_rdk HE.out
      obtain ⟨b, o, e0, hb, e1, e2⟩ := ext_cells hrdE (partE_get hx)
      cases e0
      rw [Nat.zero_add] at e1 e2
      have hxs := HR.out.ext_size (List.mem_of_getElem? hx)
      have hfit := fun (y : Wt) (hy : y ∈ d.waits) (e : y.nm = x.nm) => wait_fits HR.out hy (List.mem_of_getElem? hx) e
      have HFit := hide hfit
      have HX := hide hx
      clear hx hrdE hfit
      go_wp2_with fail
      go_loopw [6, 26] (fun s6 s26 wi => ∃ (k : Nat) (acc : Ext), s26 = .int .i64 k ∧ k ≤ d.waits.length ∧ Hid (settleE (fun _ => true) 0 d.waits x = settleE (fun _ => true) k (d.waits.drop k) acc) ∧ Hid (acc.nm = x.nm) ∧ Hid (acc.dt.size = x.dt.size) ∧ Hid (Bk wi wO.heap.size 77 #[.string x.nm, .string x.dt]) ∧ Hid (Below wO.heap.size wO wi) ∧ (∃ ag na ca, s6 = .slice ag na ca ∧ Hid ((ag = none ∧ na = 0 ∧ ca = 0 ∧ acc = x) ∨ ∃ g, ag = some ⟨g, 0, none⟩ ∧ na = x.dt.size ∧ x.dt.size ≤ ca ∧ wO.heap.size < g ∧ Hs wi g acc.dt))) (fun _ s26 _ => d.waits.length - (intOf s26).toNat)
      case atStart => exact ⟨0, x, rfl, by omega, hide rfl, hide rfl, hide rfl, hide (Bk.new _ _ _), hide (ba1 _ _), none, 0, 0, rfl, hide (.inl ⟨rfl, rfl, rfl, rfl⟩)⟩
      case round =>
        obtain ⟨k, acc, rfl, hk, hst, han, hsz, hbx, hbw, ag, na, ca, rfl, hdat⟩ := hrel
        obtain ⟨x0, x1⟩ := two_cells hbx.out
        have hxl := hbx.out.lt
        have hKi := HK.out.keep hbw.out
        have hqi := hKi.lt
        obtain ⟨d0, d1, d2, d3, d4⟩ := five_cells hKi
        have HKi := hide hKi
        clear hKi
        by_cases hlt2 : k < d.waits.length
        · obtain ⟨y, hy⟩ : ∃ y, d.waits[k]? = some y := ⟨d.waits[k], List.getElem?_eq_getElem hlt2⟩
          obtain ⟨bw, ow, rfl, hbl, u1, u2, u3⟩ := wt_cells (own_rdk (own_keep HW.out hbw.out)) hy
          have hstep := settle_step hst.out hy
          rw [han.out] at hstep
          have HStep := hide hstep
          have hmy := List.mem_of_getElem? hy
          have HMy := hide hmy
          clear hstep hy hmy
          by_cases hn : y.nm = x.nm
          · obtain ⟨f1, f2, f3⟩ := HFit.out y HMy.out hn
            rw [hn] at u1
            have hstep := HStep.out
            rw [if_pos hn] at hstep
            have HSt := hide hstep
            clear HStep hstep hn
            obtain ⟨t, ht⟩ : ∃ t : Nat, y.sec = (t : Int) := ⟨y.sec.toNat, by omega⟩
            rw [ht] at u2 f1 f3
            have ht2 : y.sec.toNat = t := by omega
            rw [ht2] at HSt
            rw [Int.toNat_natCast] at f3
            clear ht ht2
            have f4 : (x.nm.toList == x.nm.toList) = true := by simp
            have hcv : ∀ W : World, (convert 9 99 (.string x.dt)).run Tryz.prog W = .ok (.slice (some ⟨W.heap.size, 0, none⟩) x.dt.size (grownCap W x.dt.size 0 5)) (Lib.bytesWorld W 5 x.dt) := fun W => Lib.run_convert_string_bytes W 9 99 5 x.dt Tryz.underlying9 Tryz.underlying99 Tryz.underlying5
            go_upto_if 43 with (go_at_call 145; refine (keepAll _ _).mono ?_; rintro e wz ⟨rfl, rfl⟩)
            go_cut [6] (fun s6 wx => ∃ g c, s6 = .slice (some ⟨g, 0, none⟩) x.dt.size c ∧ x.dt.size ≤ c ∧ wO.heap.size < g ∧ Hid (Hs wx g acc.dt) ∧ Bk wx wO.heap.size 77 #[.string x.nm, .string x.dt] ∧ Bk wx wr.heap.size 79 #[.string x.nm, .int .i64 t, .string y.dt] ∧ Below wO.heap.size wO wx)
            case first =>
              rcases hdat.out with ⟨rfl, rfl, rfl, rfl⟩ | ⟨g, rfl, rfl, hc, hg, hHs⟩
              · have HBx := hide hbx.out
                have hw1 := hbw.out.size
                go_wp2_with fail
                go_meet
                have hby := bytes_below (wr.alloc (.cells #[.string acc.nm, .int .i64 (t : Int), .string y.dt] 79)) 5 acc.dt
                have hs1 : (wr.alloc (.cells #[.string acc.nm, .int .i64 (t : Int), .string y.dt] 79)).heap.size = wr.heap.size + 1 := by simp
                have hnew := Hs.new (wr.alloc (.cells #[.string acc.nm, .int .i64 (t : Int), .string y.dt] 79)) 5 acc.dt
                rw [hs1] at hnew
                refine ⟨wr.heap.size + 1, grownCap (wr.alloc (.cells #[.string acc.nm, .int .i64 (t : Int), .string y.dt] 79)) acc.dt.size 0 5, by simp, grow_le _ _ _ _, by omega, hide hnew, ((HBx.out.alloc _).keep hby), (Bk.new _ _ _).keep hby, btrans (btrans hbw.out (ba1 _ _)) hby⟩
              · have HHs := hide hHs
                have HBx := hide hbx.out
                have hgl := hHs.lt_ (by rw [hsz.out]; omega)
                clear hHs
                go_wp2_with fail
                go_meet
                exact ⟨g, ca, rfl, hc, hg, hide (HHs.out.keep (ba1 _ _) hgl), HBx.out.alloc _, Bk.new _ _ _, btrans hbw.out (ba1 _ _)⟩
            case rest =>
              obtain ⟨g, c, rfl, hc, hg, hHs, hbx3, hby3, hbw3⟩ := hcut
              obtain ⟨v0, v1, v2⟩ := cells3 hby3
              have hlt3 := hby3.lt
              obtain ⟨a, ha⟩ : ∃ a, a = 64 * t := ⟨_, rfl⟩
              have wa : IntKind.i64.wrap (64 * (t : Int)) = (a : Int) := by rw [IntWalk.i64_in _ ⟨by omega, by omega⟩]; omega
              have hax : a ≤ x.dt.size := by omega
              have hcp : y.dt.size ≤ x.dt.size - a := by omega
              have hfa : a + y.dt.size ≤ acc.dt.size := by rw [hsz.out]; omega
              have hHs2 := HsP hHs.out hfa
              have HHs := hide hHs.out
              rw [← ha] at HSt
              have HCp1 := hide hHs2.1
              have HCp2 := hide hHs2.2
              have HBx3 := hide hbx3
              have HBw3 := hide hbw3
              have hne : ¬ (c = a) := by omega
              have HSz := hide (show (lay acc.dt a y.dt).size = x.dt.size from (lay_size hfa).trans hsz.out)
              have HLay := hide ((show Hs wc.drew g acc.dt from hHs.out).lay_ hfa)
              clear ha hHs hHs2 hbx3 hby3 hbw3 f1 hfa
              go_upto_region 10 with (fail)
              go_region_law (
                refine step_copy_string rfl (.tmp 51) (.tmp 53) 99 9 rfl 5 Tryz.underlying99 Tryz.sizeOf5 g a (x.dt.size - a) (c - a) ?_ y.dt ?_ hcp HCp1.out HCp2.out ?_
                · simp [Act.eval, Act.put]
                · simp [Act.eval, Act.put]
                have hz0 := HBw3.out.size)
              all_goals
                obtain ⟨W5, hW5⟩ : ∃ W, W = wc.drew.setCells g a (y.dt.data.toList.map fun x => Value.int .u8 (x.toNat : Int)) := ⟨_, rfl⟩
                have hL5 := HLay.out
                have hB5 := below_setCells (B := g) (b := g) (a := wc) (Nat.le_refl _) (y.dt.data.toList.map fun x => Value.int .u8 (x.toNat : Int)) a wc.drew ((Below.refl _ _).drew)
                rw [← hW5] at hL5 hB5 ⊢
                have HL5 := hide hL5
                have HB5 := hide hB5
                clear hL5 hB5 hW5
                go_wp2_with fail
                exact ⟨⟨k + 1, ⟨acc.nm, lay acc.dt a y.dt⟩, by go_num, by omega, hide (by rw [han.out]; exact HSt.out), han, HSz, hide (HBx3.out.below HB5.out hg), hide (HBw3.out.trans (HB5.out.mono (by omega))), _, _, _, rfl, hide (.inr ⟨g, rfl, rfl, hc, hg, HL5.out⟩)⟩, by simp [intOf]; omega⟩
          · have f4 : (y.nm.toList == x.nm.toList) = false := by
              have : ¬ y.nm.toList = x.nm.toList := fun h => hn (toList_inj' h)
              simp [this]
            have hstep := HStep.out
            rw [if_neg hn] at hstep
            have HSt := hide hstep
            clear HStep hstep hn
            go_wp2_with fail
            refine ⟨⟨k + 1, acc, by simp, by omega, HSt, han, hsz, hide (hbx.out.alloc _), hide (btrans hbw.out (ba1 _ _)), ag, na, ca, rfl, hide ?_⟩, by simp [intOf]; omega⟩
            rcases hdat.out with h | ⟨g, r1, r2, r3, r4, r5⟩
            · exact .inl h
            · exact .inr ⟨g, r1, r2, r3, r4, r5.alloc _⟩
        · obtain rfl : k = d.waits.length := by omega
          have hacc : settleE (fun _ => true) 0 d.waits x = acc := by rw [hst.out, List.drop_length]; rfl
          have HAcc := hide hacc
          clear hst hacc
          rcases hdat.out with ⟨rfl, rfl, rfl, rfl⟩ | ⟨g, rfl, rfl, hc, hg, hHs⟩
          · go_wp2_with fail
            have hnext := partE_next HX.out (ws := d.waits)
            rw [HAcc.out] at hnext
            have hsame : partE d.waits d.exts (i + 1) = partE d.waits d.exts i := by
              rw [hnext]
              exact List.set_getElem_self_of (partE_get HX.out)
            refine ⟨⟨i + 1, by simp, by omega, HKi, hide ?_, hide (own_keep HW.out hbw.out), hide (HF.out.trans (AFr.below hbw.out))⟩, by simp [intOf]; omega⟩
            rw [hsame]; exact own_keep HE.out hbw.out
          · have HBw := hide hbw.out
            have HHs := hide hHs
            have HOi := hide (own_keep HE.out hbw.out)
            have hcv2 := conv_text (c := ca) (show Hs wr.drew g acc.dt from hHs) hsz.out
            have hEi := own_rdk (own_keep HE.out hbw.out)
            obtain ⟨b', o', e0', hb', e1', e2'⟩ := ext_cells hEi (partE_get HX.out)
            cases e0'
            rw [Nat.zero_add] at e1' e2'
            have hfz := own_free (i := i * 2 + 1) HOi.out
            clear hHs hEi
            go_upto_region 13 with (fail)
            refine wp_region_still_tail 10 (by kernel_rfl) (by kernel_rfl) ?_
            simp only [List.take_succ_cons, List.take_zero, List.drop_succ_cons, List.drop_zero]
            change wpStill _ _ wr.drew _ _ _
            repeat still_step
            refine wpStill_nil ?_
            change wpList _ _ _ _ _ wr.drew
            go_wp2_with fail
            have hnext := partE_next HX.out (ws := d.waits)
            rw [HAcc.out] at hnext
            have hput := flatE_put acc.dt (partE_get (ws := d.waits) HX.out)
            have hacc2 : (⟨x.nm, acc.dt⟩ : Ext) = acc := by rw [← han.out]
            rw [hacc2, ← hnext] at hput
            obtain ⟨hgE, cur, hbkE⟩ := own_bk HOi.out
            have hO3 := own_putk (i := i * 2 + 1) HOi.out (.string acc.dt)
            rw [hput] at hO3
            refine ⟨⟨i + 1, by simp, by omega, hide ((HKi.out.far (p := ⟨gE, i * 2 + 1, none⟩) (fun e => own_ne HOi.out HKi.out (by decide) (by rw [e]; rfl)) _).drew), hide hO3, hide (own_set (own_keep HW.out HBw.out) (p := ⟨gE, i * 2 + 1, none⟩) (fun e => own_apart (own_keep HW.out HBw.out) HOi.out (by decide) e rfl) _), hide ((HF.out.trans (AFr.below HBw.out)).set_ hbkE (hq.exts gE rfl) (by unfold DTy; simp) _ _).drew⟩, by simp [intOf]; omega⟩
    · obtain rfl : i = d.exts.length := by omega
      have hE2 := HE.out
      rw [partE_all] at hE2
      have HE2 := hide hE2
      have g2 := HK.out.free 2
      clear hE2
      go_wp2_with fail
      go_end0
      have k3 := HK.out.set_ 2 (.slice none 0 0)
      refine ⟨rfl, ?_, HF.out.set_ HK.out hq.dev (by unfold DTy; simp) 2 _⟩
      refine ⟨.slice AE d.exts.length cE, .slice none 0 0, k3, ?_, World.ownsRow_nil _ _ _ _, ⟨hq.dev, hq.exts, fun g hg => by simp [Value.ownBlock] at hg, by have := HF.out.size; have := hq.top; rw [size_setCell]; omega⟩, HQF.out.2⟩
      have h3 := own_set HE2.out (p := ⟨q, 2, none⟩) (fun e => own_ne HE2.out HK.out (by decide) e.symm) (.slice none 0 0)
      show World.ownsRow _ 0 _ 2 _ (d.exts.map _).length _
      rw [List.length_map]
      exact h3
theorem sync_disk (B : Fld) (q : Nat) (d : Dsk) (w : World) (hd : DvAt w B q d) (hr : Right d) :
    Calls Tryz.prog 104 #[.pointer (some ⟨q, 0, none⟩)] w fun e w' => e = .returned (.tuple #[]) ∧ DvAt w' B q (syncD d) ∧ AFr DTy B w w' := by
  have hs := settle_disk B q d w hd hr
  have HS := hide hs
  clear hs hd hr
  go_enter Tryz.func104, Tryz.ntmps104
  go_wp2_with (go_at_call 144; refine Calls.mono HS.out ?_; rintro e w1 ⟨rfl, hd1, hf1⟩; have HD1 := hide hd1; have HF1 := hide hf1; clear hd1 hf1)
  go_end0
  exact ⟨rfl, HD1.out, HF1.out⟩
end Go.Proofs.YtmopegpkoedgbaaGreatDoor
/- Walk: slices.Insert at extents: at the end. -/
namespace Go.Proofs.YtmopegpkoedgbaaGreatDoor
open Go.RowKit Go.Sort

theorem insE_end (l : List Ext) (x : Ext) : insE l l.length x = l ++ [x] := by unfold insE; simp
set_option maxRecDepth 100000 in
set_option maxHeartbeats 4000000 in
theorem insert_end (A : Option Addr) (c vb : Nat) (l : List Ext) (x : Ext) (w : World) (ho : w.ownsRow 0 77 2 (.slice A l.length c) l.length (flatE l)) (hv : Bk w vb 77 #[.string x.nm, .string x.dt]) (hl : l.length ≤ 1000000) :
    Calls Tryz.prog 152 #[.slice A l.length c, .int .i64 l.length, .slice (some ⟨vb, 0, none⟩) 1 1] w fun e w' => (∃ A' c', e = .returned (.slice A' (l.length + 1) c') ∧ w'.ownsRow 0 77 2 (.slice A' (l.length + 1) c') (l.length + 1) (flatE (insE l l.length x)) ∧ ∀ k, (Value.slice A' (l.length + 1) c').ownBlock = some k → (Value.slice A l.length c).ownBlock = some k ∨ w.heap.size ≤ k) ∧ w.grownBy w' (Value.slice A l.length c).ownBlock := by
  obtain ⟨i0, hi, hz0, hz1, hz2⟩ := info_parts info_ext
  rw [insE_end, flatE_app]
  have hvc : ∀ j u, ([Value.string x.nm, .string x.dt])[j]? = some u → w.cell? ((⟨vb, 0, none⟩ : Addr).add j) = some u := fun j u hj => by
    have := hv.cell j
    rw [Addr.add_lit, Nat.zero_add, this]
    simpa using hj
  have hx2 : flatE [x] = [Value.string x.nm, .string x.dt] := rfl
  rw [hx2]
  have HO := hide ho
  have HV := hide hvc
  have hsh : A = none ∧ c = 0 ∧ l.length = 0 ∨ ∃ g, A = some ⟨g, 0, none⟩ ∧ l.length ≤ c ∧ c ≤ maxLen := by
    rcases ho.2 with ⟨hv, h0⟩ | ⟨g', cap, cur, hv, hb, hg, hnc, hcm, _⟩
    · simp only [Value.slice.injEq] at hv; exact .inl ⟨hv.1, hv.2.2, h0⟩
    · simp only [Value.slice.injEq] at hv
      obtain ⟨rfl, _, rfl⟩ := hv
      exact .inr ⟨g', rfl, hnc, hcm⟩
  clear ho hv hvc hx2
  rcases hsh with ⟨rfl, rfl, h0⟩ | ⟨g, rfl, hc, hcm⟩
  · rw [h0] at HO ⊢
    go_enter Tryz.func152, Tryz.ntmps152
    go_wp2_with (at_builtin; refine wpList_append_at _ rfl _ _ 22 rfl 0 77 i0 _ 2 32 Tryz.underlying22 hi hz0 hz1 hz2 rfl (by decide) _ _ _ rfl HO.out ⟨vb, 0, none⟩ 1 1 [.string x.nm, .string x.dt] rfl rfl HV.out (by intro u hu; simp at hu; rcases hu with rfl | rfl <;> rfl) (by unfold maxLen; omega) (by omega) (Nat.zero_le _) ?_; intro v2 w2 hown2 hgr2 _ hloc2; have HO2 := hide hown2; have HG2 := hide hgr2; have HL2 := hide hloc2; clear hown2 hgr2 hloc2)
    go_ret
    obtain ⟨A', c', rfl⟩ := own_formk HO2.out
    exact ⟨⟨A', c', rfl, HO2.out, HL2.out⟩, HG2.out⟩
  · have hcI : c ≤ 9223372036854775807 := by unfold maxLen at hcm; omega
    go_enter Tryz.func152, Tryz.ntmps152
    go_wp2_with (at_builtin; refine wpList_append_at _ rfl _ _ 22 rfl 0 77 i0 _ 2 32 Tryz.underlying22 hi hz0 hz1 hz2 rfl (by decide) _ _ _ rfl HO.out ⟨vb, 0, none⟩ 1 1 [.string x.nm, .string x.dt] rfl rfl HV.out (by intro u hu; simp at hu; rcases hu with rfl | rfl <;> rfl) (by unfold maxLen; omega) (by omega) (Nat.zero_le _) ?_; intro v2 w2 hown2 hgr2 _ hloc2; have HO2 := hide hown2; have HG2 := hide hgr2; have HL2 := hide hloc2; clear hown2 hgr2 hloc2)
    all_goals
      go_ret
      obtain ⟨A', c', rfl⟩ := own_formk HO2.out
      exact ⟨⟨A', c', rfl, HO2.out, HL2.out⟩, HG2.out⟩
/-- copy of elements of k cells. -/
theorem run_copy_rowk {P : Program} (k : Nat) (w : World) (dT sT ty elem : TypeId) (g o dLen dCap : Nat) (a : Addr) (sLen sCap n : Nat) (cur : Array Value) (t : TypeId) (cs : List Value)
    (hu : P.underlying dT = some (.slice elem)) (hs : (P.info? elem).map (·.size) = some k)
    (hg : w.heap[g]? = some (.cells cur t (0, 0))) (hm : n = Nat.min sLen dLen) (hn : cs.length = n * k)
    (hsrc : ∀ j v, cs[j]? = some v → w.cell? (a.add j) = some v) (hfit : o + cs.length ≤ cur.size) (h1 : ∀ v ∈ cs, v.oneCell' = true) :
    (Builtin.copy_ #[dT, sT] ty #[.slice (some ⟨g, o, none⟩) dLen dCap, .slice (some a) sLen sCap]).run P w =
      .ok (goInt n) (w.setRow g (cur.toList.take o ++ cs ++ cur.toList.drop (o + cs.length)).toArray) := by
  have hl := run_loadCells_list (P := P) w a cs hsrc
  have hst := run_storeCells_at P g o t cs 0 cur w hg (by simpa using hfit) h1
  subst hm
  cases hq : P.info? elem with
  | none => simp [hq] at hs
  | some i =>
    have hi : i.size = k := by simpa [hq] using hs
    rw [hn] at hl
    simp [Builtin.copy_, run_underlying hu, Builtin.lenOf, Builtin.firstCells, sizeOf, typeInfo, hq, hi, hl, hst]
end Go.Proofs.YtmopegpkoedgbaaGreatDoor
