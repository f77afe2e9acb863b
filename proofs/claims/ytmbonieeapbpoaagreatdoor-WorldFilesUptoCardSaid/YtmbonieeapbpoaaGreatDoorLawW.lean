/- A world, and a list of bools, as they came in. -/
import Derived.Test.YtmbonieeapbpoaaGreatDoorM26
import Derived.Test.YtmbonieeapbpoaaGreatDoorM29
namespace Go.Proofs.YtmbonieeapbpoaaGreatDoor
open Go.ChangeShapes Go.WideShapes Go.ChangeAt Go.RowKit Go.Joins Go.Deep

section
variable {H : Type}
theorem five_list {α : Type} {l : List α} (h : l.length = 5) : ∃ c0 c1 c2 c3 c4, l = [c0, c1, c2, c3, c4] := by
  match l, h with
  | [c0, c1, c2, c3, c4], _ => exact ⟨c0, c1, c2, c3, c4, rfl⟩
theorem three_list {α : Type} {l : List α} (h : l.length = 3) : ∃ c0 c1 c2, l = [c0, c1, c2] := by
  match l, h with
  | [c0, c1, c2], _ => exact ⟨c0, c1, c2, rfl⟩
theorem two_list {α : Type} {l : List α} (h : l.length = 2) : ∃ c0 c1, l = [c0, c1] := by
  match l, h with
  | [c0, c1], _ => exact ⟨c0, c1, rfl⟩
theorem open_five {enc : TypeId × Value → H} {P : Program} {W : World} {base : Nat} {sp : Nat → Bool} {held : Bool} {n : Nat} {t : TypeId} {f0 f1 f2 f3 f4 : Field} {cs : List Value} {x : DataW H × List MemPlace}
    (hs : P.underlying t = some (.struct #[f0, f1, f2, f3, f4])) (hone : oneCellFields P #[f0, f1, f2, f3, f4] = true) (hC : P.cellsOf t = 5) (h : DataW.trod enc P W base sp held n t cs = some x) :
    ∃ (c0 c1 c2 c3 c4 : Value) (y0 y1 y2 y3 y4 : DataW H × List MemPlace) (m : Nat), cs = [c0, c1, c2, c3, c4] ∧ x.1 = .agg [y0.1, y1.1, y2.1, y3.1, y4.1] ∧
      DataW.trod enc P W base sp held m f0.type [c0] = some y0 ∧ DataW.trod enc P W base sp held m f1.type [c1] = some y1 ∧ DataW.trod enc P W base sp held m f2.type [c2] = some y2 ∧
      DataW.trod enc P W base sp held m f3.type [c3] = some y3 ∧ DataW.trod enc P W base sp held m f4.type [c4] = some y4 := by
  obtain ⟨xs, m, _, rfl, hl, hlen, hx⟩ := DataW.trod_struct hs h
  obtain ⟨c0, c1, c2, c3, c4, rfl⟩ := five_list (hl.trans hC)
  obtain ⟨y0, y1, y2, y3, y4, rfl⟩ := five_list (hlen.trans rfl)
  obtain ⟨o0, e0⟩ := hone_of hone 0 f0 rfl
  obtain ⟨o1, e1⟩ := hone_of hone 1 f1 rfl
  obtain ⟨o2, e2⟩ := hone_of hone 2 f2 rfl
  obtain ⟨o3, e3⟩ := hone_of hone 3 f3 rfl
  obtain ⟨o4, e4⟩ := hone_of hone 4 f4 rfl
  have h0 := hx 0 f0 rfl
  have h1 := hx 1 f1 rfl
  have h2 := hx 2 f2 rfl
  have h3 := hx 3 f3 rfl
  have h4 := hx 4 f4 rfl
  rw [o0, e0] at h0
  rw [o1, e1] at h1
  rw [o2, e2] at h2
  rw [o3, e3] at h3
  rw [o4, e4] at h4
  exact ⟨c0, c1, c2, c3, c4, y0, y1, y2, y3, y4, m, rfl, rfl, h0, h1, h2, h3, h4⟩
theorem open_three {enc : TypeId × Value → H} {P : Program} {W : World} {base : Nat} {sp : Nat → Bool} {held : Bool} {n : Nat} {t : TypeId} {f0 f1 f2 : Field} {cs : List Value} {x : DataW H × List MemPlace}
    (hs : P.underlying t = some (.struct #[f0, f1, f2])) (hone : oneCellFields P #[f0, f1, f2] = true) (hC : P.cellsOf t = 3) (h : DataW.trod enc P W base sp held n t cs = some x) :
    ∃ (c0 c1 c2 : Value) (y0 y1 y2 : DataW H × List MemPlace) (m : Nat), cs = [c0, c1, c2] ∧ x.1 = .agg [y0.1, y1.1, y2.1] ∧
      DataW.trod enc P W base sp held m f0.type [c0] = some y0 ∧ DataW.trod enc P W base sp held m f1.type [c1] = some y1 ∧ DataW.trod enc P W base sp held m f2.type [c2] = some y2 := by
  obtain ⟨xs, m, _, rfl, hl, hlen, hx⟩ := DataW.trod_struct hs h
  obtain ⟨c0, c1, c2, rfl⟩ := three_list (hl.trans hC)
  obtain ⟨y0, y1, y2, rfl⟩ := three_list (hlen.trans rfl)
  obtain ⟨o0, e0⟩ := hone_of hone 0 f0 rfl
  obtain ⟨o1, e1⟩ := hone_of hone 1 f1 rfl
  obtain ⟨o2, e2⟩ := hone_of hone 2 f2 rfl
  have h0 := hx 0 f0 rfl
  have h1 := hx 1 f1 rfl
  have h2 := hx 2 f2 rfl
  rw [o0, e0] at h0
  rw [o1, e1] at h1
  rw [o2, e2] at h2
  exact ⟨c0, c1, c2, y0, y1, y2, m, rfl, rfl, h0, h1, h2⟩
theorem open_two {enc : TypeId × Value → H} {P : Program} {W : World} {base : Nat} {sp : Nat → Bool} {held : Bool} {n : Nat} {t : TypeId} {f0 f1 : Field} {cs : List Value} {x : DataW H × List MemPlace}
    (hs : P.underlying t = some (.struct #[f0, f1])) (hone : oneCellFields P #[f0, f1] = true) (hC : P.cellsOf t = 2) (h : DataW.trod enc P W base sp held n t cs = some x) :
    ∃ (c0 c1 : Value) (y0 y1 : DataW H × List MemPlace) (m : Nat), cs = [c0, c1] ∧ x.1 = .agg [y0.1, y1.1] ∧
      DataW.trod enc P W base sp held m f0.type [c0] = some y0 ∧ DataW.trod enc P W base sp held m f1.type [c1] = some y1 := by
  obtain ⟨xs, m, _, rfl, hl, hlen, hx⟩ := DataW.trod_struct hs h
  obtain ⟨c0, c1, rfl⟩ := two_list (hl.trans hC)
  obtain ⟨y0, y1, rfl⟩ := two_list (hlen.trans rfl)
  obtain ⟨o0, e0⟩ := hone_of hone 0 f0 rfl
  obtain ⟨o1, e1⟩ := hone_of hone 1 f1 rfl
  have h0 := hx 0 f0 rfl
  have h1 := hx 1 f1 rfl
  rw [o0, e0] at h0
  rw [o1, e1] at h1
  exact ⟨c0, c1, y0, y1, m, rfl, rfl, h0, h1⟩
variable {enc : TypeId × Value → H} {W : World} {base : Nat} {sp : Nat → Bool} {held : Bool}
theorem str_len (s : ByteArray) : s.data.toList.length = s.size := by rw [Array.length_toList]; rfl
theorem open_ext {n : Nat} {cs : List Value} {x : DataW H × List MemPlace} (h : DataW.trod enc Tryz.prog W base sp held n 49 cs = some x) : ∃ e : Ext, cs = [.string e.nm, .string e.dt] ∧ e.dt.size ≤ Rows.uptoBulk x.1 := by
  obtain ⟨c0, c1, y0, y1, m, rfl, e, h0, h1⟩ := open_two Tryz.underlying49 (by kernel_rfl) (by kernel_rfl) h
  obtain ⟨a, q0, rfl, _⟩ := DataW.trod_string Tryz.underlying9 h0
  obtain ⟨b, q1, rfl, _⟩ := DataW.trod_string Tryz.underlying9 h1
  simp only [List.cons.injEq, and_true] at q0 q1
  subst q0 q1
  refine ⟨⟨a, b⟩, rfl, ?_⟩
  rw [e]
  show b.size ≤ _
  simp only [Rows.uptoBulk, Rows.uptoBulkAll, str_len]
  omega
theorem open_wt {n : Nat} {cs : List Value} {x : DataW H × List MemPlace} (h : DataW.trod enc Tryz.prog W base sp held n 77 cs = some x) : ∃ e : Wt, cs = [.string e.nm, .int .i64 e.sec, .string e.dt] ∧ e.dt.size ≤ Rows.uptoBulk x.1 := by
  obtain ⟨c0, c1, c2, y0, y1, y2, m, rfl, e, h0, h1, h2⟩ := open_three Tryz.underlying77 (by kernel_rfl) (by kernel_rfl) h
  obtain ⟨a, q0, rfl, _⟩ := DataW.trod_string Tryz.underlying9 h0
  obtain ⟨v, q1, rfl, _⟩ := DataW.trod_int Tryz.underlying3 h1
  obtain ⟨b, q2, rfl, _⟩ := DataW.trod_string Tryz.underlying9 h2
  simp only [List.cons.injEq, and_true] at q0 q1 q2
  subst q0 q1 q2
  refine ⟨⟨a, v, b⟩, rfl, ?_⟩
  rw [e]
  show b.size ≤ _
  simp only [Rows.uptoBulk, Rows.uptoBulkAll, str_len]
  omega
instance : Inhabited Ext := ⟨⟨⟨#[]⟩, ⟨#[]⟩⟩⟩
instance : Inhabited Wt := ⟨⟨⟨#[]⟩, 0, ⟨#[]⟩⟩⟩
theorem bulk_slice {D : Nat → DataW H} {len i : Nat} {R : List (DataW H)} (hi : i < len) : Rows.uptoBulk (D i) ≤ Rows.uptoBulk (DataW.slice ((List.range len).map D) R) := by
  rw [Rows.uptoBulk]
  have := bulk_part (l := (List.range len).map D) (d := D i) (List.mem_map.2 ⟨i, List.mem_range.2 hi, rfl⟩)
  omega
theorem bulk_slen {D : Nat → DataW H} {len : Nat} {R : List (DataW H)} : len ≤ Rows.uptoBulk (DataW.slice ((List.range len).map D) R) := by
  rw [Rows.uptoBulk]
  have := bulk_len ((List.range len).map D)
  rw [List.length_map, List.length_range] at this
  omega
theorem open_exts {n : Nat} {cs : List Value} {x : DataW H × List MemPlace} (h : DataW.trod enc Tryz.prog W base sp held n 22 cs = some x) : ∃ (l : List Ext) (A : Option Addr) (c : Nat), cs = [.slice A l.length c] ∧ Rd W W.heap.size A (flatE l) ∧ l.length ≤ c ∧ l.length ≤ Rows.uptoBulk x.1 ∧ ∀ e ∈ l, e.dt.size ≤ Rows.uptoBulk x.1 := by
  have hC : Tryz.prog.cellsOf 49 = 2 := by kernel_rfl
  rcases open_slice Tryz.underlying22 h with ⟨rfl, rfl⟩ | ⟨a, len, cap, m, k, D, Pl, rfl, hb, hl, hm, hmm, rfl, hx⟩
  · exact ⟨[], none, 0, rfl, Rd.nil_, Nat.le_refl _, Nat.zero_le _, fun e he => by cases he⟩
  have hlm : len ≤ m := by rw [hmm]; split <;> omega
  have each : ∀ i, i < len → ∃ q : Ext, W.cells? base (a.add (i * 2)) 2 = some [.string q.nm, .string q.dt] ∧ q.dt.size ≤ Rows.uptoBulk (D i) := fun i hi => by
    obtain ⟨cs', h1, h2⟩ := hx i (by omega)
    rw [hC] at h1
    obtain ⟨s, rfl, h4⟩ := open_ext h2
    exact ⟨s, h1, h4⟩
  obtain ⟨q, hq⟩ := choose_lt each
  refine ⟨(List.range len).map q, some a, cap, by simp, ?_, by simpa using hl, by simpa using bulk_slen (D := D) (len := len), ?_⟩
  · intro i u hu
    have hi : i < len * 2 := by have := (List.getElem?_eq_some_iff.1 hu).1; rw [flatE_length] at this; simpa using this
    have hk : i / 2 < len := by omega
    have hg := flat_get (k := 2) (f := fun x : Ext => [.string x.nm, .string x.dt]) (fun _ => rfl) (l := (List.range len).map q) (i := i / 2) (x := q (i / 2)) (by simp [hk]) (i % 2) (by omega)
    rw [show 2 * (i / 2) + i % 2 = i from by omega, show List.flatMap (fun x : Ext => [Value.string x.nm, .string x.dt]) ((List.range len).map q) = flatE ((List.range len).map q) from rfl, hu] at hg
    have hc := (World.cells?_some (hq (i / 2) hk).1).2.2 (i % 2) (by omega)
    rw [← hg, Go.Deep.add_add, show i / 2 * 2 + i % 2 = i from by omega] at hc
    have hc0 := (World.cells?_some (hq 0 (by omega)).1).2.2 0 (by omega)
    obtain ⟨b, o, spot⟩ := a
    have hspot : spot = none := by simpa [Addr.add] using World.cell?_spot (hc0.trans (show ([Value.string (q 0).nm, .string (q 0).dt])[0]? = some _ from rfl))
    subst hspot
    rw [Go.WideShapes.add_plain] at hc
    exact ⟨b, o, rfl, World.block_lt_of_cell? W _ hc, hc⟩
  · intro e he
    obtain ⟨i, hi, rfl⟩ := List.mem_map.1 he
    exact Nat.le_trans (hq i (List.mem_range.1 hi)).2 (bulk_slice (List.mem_range.1 hi))
theorem open_wts {n : Nat} {cs : List Value} {x : DataW H × List MemPlace} (h : DataW.trod enc Tryz.prog W base sp held n 23 cs = some x) : ∃ (l : List Wt) (A : Option Addr) (c : Nat), cs = [.slice A l.length c] ∧ Rd W W.heap.size A (flatW l) ∧ l.length ≤ Rows.uptoBulk x.1 ∧ ∀ e ∈ l, e.dt.size ≤ Rows.uptoBulk x.1 := by
  have hC : Tryz.prog.cellsOf 77 = 3 := by kernel_rfl
  rcases open_slice Tryz.underlying23 h with ⟨rfl, rfl⟩ | ⟨a, len, cap, m, k, D, Pl, rfl, hb, hl, hm, hmm, rfl, hx⟩
  · exact ⟨[], none, 0, rfl, Rd.nil_, Nat.zero_le _, fun e he => by cases he⟩
  have hlm : len ≤ m := by rw [hmm]; split <;> omega
  have each : ∀ i, i < len → ∃ q : Wt, W.cells? base (a.add (i * 3)) 3 = some [.string q.nm, .int .i64 q.sec, .string q.dt] ∧ q.dt.size ≤ Rows.uptoBulk (D i) := fun i hi => by
    obtain ⟨cs', h1, h2⟩ := hx i (by omega)
    rw [hC] at h1
    obtain ⟨s, rfl, h4⟩ := open_wt h2
    exact ⟨s, h1, h4⟩
  obtain ⟨q, hq⟩ := choose_lt each
  refine ⟨(List.range len).map q, some a, cap, by simp, ?_, by simpa using bulk_slen (D := D) (len := len), ?_⟩
  · intro i u hu
    have hi : i < len * 3 := by have := (List.getElem?_eq_some_iff.1 hu).1; rw [flatW_length] at this; simpa using this
    have hk : i / 3 < len := by omega
    have hg := flat_get (k := 3) (f := fun x : Wt => [.string x.nm, .int .i64 x.sec, .string x.dt]) (fun _ => rfl) (l := (List.range len).map q) (i := i / 3) (x := q (i / 3)) (by simp [hk]) (i % 3) (by omega)
    rw [show 3 * (i / 3) + i % 3 = i from by omega, show List.flatMap (fun x : Wt => [Value.string x.nm, .int .i64 x.sec, .string x.dt]) ((List.range len).map q) = flatW ((List.range len).map q) from rfl, hu] at hg
    have hc := (World.cells?_some (hq (i / 3) hk).1).2.2 (i % 3) (by omega)
    rw [← hg, Go.Deep.add_add, show i / 3 * 3 + i % 3 = i from by omega] at hc
    have hc0 := (World.cells?_some (hq 0 (by omega)).1).2.2 0 (by omega)
    obtain ⟨b, o, spot⟩ := a
    have hspot : spot = none := by simpa [Addr.add] using World.cell?_spot (hc0.trans (show ([Value.string (q 0).nm, .int .i64 (q 0).sec, .string (q 0).dt])[0]? = some _ from rfl))
    subst hspot
    rw [Go.WideShapes.add_plain] at hc
    exact ⟨b, o, rfl, World.block_lt_of_cell? W _ hc, hc⟩
  · intro e he
    obtain ⟨i, hi, rfl⟩ := List.mem_map.1 he
    exact Nat.le_trans (hq i (List.mem_range.1 hi)).2 (bulk_slice (List.mem_range.1 hi))
/-- What a world's value is, in cells. -/
theorem open_world {n : Nat} {cs : List Value} {x : DataW H × List MemPlace} (h : DataW.trod enc Tryz.prog W base sp held n 27 cs = some x) : ∃ (d : Dsk) (b : Int) (AE : Option Addr) (cE : Nat) (AW : Option Addr) (cW : Nat), cs = [.int .i64 d.size, .slice AE d.exts.length cE, .slice AW d.waits.length cW, .int .i64 d.fuse, .bool d.down, .int .i64 b] ∧ Rd W W.heap.size AE (flatE d.exts) ∧ Rd W W.heap.size AW (flatW d.waits) ∧ d.exts.length ≤ cE ∧ d.fuse ≤ 9223372036854775807 ∧ (Rows.uptoBulk x.1 ≤ 1048576 → SzD d) := by
  obtain ⟨y0, y1, m, rfl, hl, h0, h1⟩ := trod_struct2 Tryz.underlying27 h
  have hc6 : Tryz.prog.cellsOf 27 = 6 := by kernel_rfl
  have hc5 : Tryz.prog.cellsOf 25 = 5 := by kernel_rfl
  have hc1 : Tryz.prog.cellsOf 3 = 1 := by kernel_rfl
  obtain ⟨a0, a1, a2, a3, a4, a5, rfl⟩ := six_list (hl.trans hc6)
  have h0' : DataW.trod enc Tryz.prog W base sp held m 25 [a0, a1, a2, a3, a4] = some y0 := by
    have := h0
    simp only [hc5] at this
    exact this
  have h1' : DataW.trod enc Tryz.prog W base sp held m 3 [a5] = some y1 := by
    have := h1
    simp only [hc1] at this
    exact this
  obtain ⟨c0, c1, c2, c3, c4, z0, z1, z2, z3, z4, m2, q, e, g0, g1, g2, g3, g4⟩ := open_five Tryz.underlying25 (by kernel_rfl) (by kernel_rfl) h0'
  simp only [List.cons.injEq, and_true] at q
  obtain ⟨rfl, rfl, rfl, rfl, rfl⟩ := q
  obtain ⟨sz, r0, rfl, _⟩ := DataW.trod_int Tryz.underlying3 g0
  obtain ⟨l, AE, cE, r1, hE, hcE, hlE, hsE⟩ := open_exts g1
  obtain ⟨ws, AW, cW, r2, hW, hlW, hsW⟩ := open_wts g2
  obtain ⟨fu, r3, rfl, wf⟩ := DataW.trod_int Tryz.underlying3 g3
  obtain ⟨dn, r4, rfl⟩ := DataW.trod_bool Tryz.underlying4 g4
  obtain ⟨b, r5, rfl, _⟩ := DataW.trod_int Tryz.underlying3 h1'
  simp only [List.cons.injEq, and_true] at r0 r1 r2 r3 r4 r5
  subst r0 r1 r2 r3 r4 r5
  have hfu := (wf_i64 wf).2
  refine ⟨⟨sz, l, ws, fu, dn⟩, b, AE, cE, AW, cW, rfl, hE, hW, hcE, by show fu ≤ _; omega, fun hk => ?_⟩
  have hk' : Rows.uptoBulk z1.1 ≤ 1048576 ∧ Rows.uptoBulk z2.1 ≤ 1048576 := by
    have hk2 : Rows.uptoBulk (DataW.agg [y0.1, (DataW.lit (.int .i64 b) : DataW H)]) ≤ 1048576 := hk
    rw [e] at hk2
    simp only [Rows.uptoBulk, Rows.uptoBulkAll] at hk2
    omega
  exact ⟨by show l.length ≤ _; omega, by show ws.length ≤ _; omega, fun x hx => by have := hsE x hx; omega, fun x hx => by have := hsW x hx; omega, by show fu ≤ _; omega⟩
set_option maxRecDepth 100000 in
theorem open_worldV {r : Reach} {b0 : Nat} {v : Value} {d : DataW H} {p : List MemPlace} (hv : Value.okWide Tryz.prog W r b0 27 v) (h : DataW.Trod enc Tryz.prog W base sp held 27 v d p) (hk : Rows.uptoBulk d ≤ 1048576) : ∃ (dd : Dsk) (b : Int), WvC W W.heap.size v dd b ∧ SzD dd := by
  obtain ⟨cs, rfl, _⟩ := okWide_struct Tryz.underlying27 hv
  obtain ⟨n, hn⟩ := h
  obtain ⟨dd, b, AE, cE, AW, cW, e, h1, h2, h3, h4, h5⟩ := open_world hn
  refine ⟨dd, b, ⟨AE, cE, AW, cW, ?_, h1, h2, h3⟩, h5 hk⟩
  have e' : cs = #[.int .i64 dd.size, .slice AE dd.exts.length cE, .slice AW dd.waits.length cW, .int .i64 dd.fuse, .bool dd.down, .int .i64 b] := Array.toList_inj.1 e
  rw [e']
set_option maxRecDepth 100000 in
theorem open_keepV {r : Reach} {b0 : Nat} {v : Value} {d : DataW H} {p : List MemPlace} (hv : Value.okWide Tryz.prog W r b0 39 v) (h : DataW.Trod enc Tryz.prog W base sp held 39 v d p) : ∃ (l : List Bool) (A : Option Addr) (c : Nat), v = .slice A l.length c ∧ Rd W W.heap.size A (l.map .bool) ∧ l.length + 1 ≤ Rows.uptoBulk d := by
  obtain ⟨a, len, cap, rfl⟩ := okWide_slice Tryz.underlying39 hv
  obtain ⟨n, hn⟩ := h
  obtain ⟨kv, l, e, ⟨A, c, rfl, h1⟩, h2⟩ := open_keep hn
  exact ⟨l, A, c, (List.cons.inj e).1, h1, h2⟩
end
#print axioms open_worldV
#print axioms open_keepV
end Go.Proofs.YtmbonieeapbpoaaGreatDoor
