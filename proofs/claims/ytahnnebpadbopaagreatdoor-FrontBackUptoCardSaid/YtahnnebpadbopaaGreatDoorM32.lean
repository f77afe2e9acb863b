/- Lemmas for the row: LawStp. -/
import Derived.Test.YtahnnebpadbopaaGreatDoorM31
import Derived.Test.YtahnnebpadbopaaGreatDoorLawBase
import Derived.Deep.DeepHandedRow
import Derived.Deep.DeepWitnessRowRef
import Derived.Deep.Slices
set_option linter.unusedVariables false
set_option linter.unusedSimpArgs false
/- A step, and a list of steps, as they came in; what the bound of an 'upto' statement gives. -/
namespace Go.Proofs.YtahnnebpadbopaaGreatDoor
open Go.ChangeShapes Go.WideShapes Go.ChangeAt Go.RowKit Go.Joins Go.Deep

section
variable {H : Type}
theorem bulk_one (d : DataW H) : 1 ≤ Rows.uptoBulk d := by
  cases d with
  | lit l => cases l <;> simp [Rows.uptoBulk]
  | nil => simp [Rows.uptoBulk]
  | ptr d => simp [Rows.uptoBulk]
  | slice elems spare => simp [Rows.uptoBulk]
  | agg parts => simp [Rows.uptoBulk]
  | iface t d => simp [Rows.uptoBulk]
  | map entries => simp [Rows.uptoBulk]
  | held h => simp [Rows.uptoBulk]
theorem bulk_part {d : DataW H} {l : List (DataW H)} (h : d ∈ l) : Rows.uptoBulk d ≤ Rows.uptoBulkAll l := by
  induction l with
  | nil => cases h
  | cons x r ih =>
    rw [Rows.uptoBulkAll]
    rcases List.mem_cons.1 h with rfl | h
    · omega
    · have := ih h; omega
theorem bulk_len (l : List (DataW H)) : l.length ≤ Rows.uptoBulkAll l := by
  induction l with
  | nil => exact Nat.zero_le _
  | cons x r ih =>
    rw [Rows.uptoBulkAll, List.length_cons]
    have := bulk_one x
    omega
theorem bulk_in {d : DataW H} {l : List (DataW H)} (hk : Rows.uptoSmall H l = true) (h : d ∈ l) : Rows.uptoBulk d ≤ 1048576 := by
  have h1 : Rows.uptoBulkAll l ≤ 1048576 := of_decide_eq_true hk
  have h2 := bulk_part h
  omega
theorem bulk_str {s : ByteArray} {l : List (DataW H)} (hk : Rows.uptoSmall H l = true) (h : DataW.lit (.string s.data.toList) ∈ l) : s.size ≤ 1048576 := by
  have h2 := bulk_in hk h
  rw [Rows.uptoBulk] at h2
  have h3 : s.data.toList.length = s.size := by rw [Array.length_toList]; rfl
  omega
theorem six_list {α : Type} {l : List α} (h : l.length = 6) : ∃ c0 c1 c2 c3 c4 c5, l = [c0, c1, c2, c3, c4, c5] := by
  match l, h with
  | [c0, c1, c2, c3, c4, c5], _ => exact ⟨c0, c1, c2, c3, c4, c5, rfl⟩
/-- A struct of six one-cell fields, by its cells. -/
theorem open_six {enc : TypeId × Value → H} {P : Program} {W : World} {base : Nat} {sp : Nat → Bool} {held : Bool} {n : Nat} {t : TypeId} {f0 f1 f2 f3 f4 f5 : Field} {cs : List Value} {x : DataW H × List MemPlace}
    (hs : P.underlying t = some (.struct #[f0, f1, f2, f3, f4, f5])) (hone : oneCellFields P #[f0, f1, f2, f3, f4, f5] = true) (hC : P.cellsOf t = 6) (h : DataW.trod enc P W base sp held n t cs = some x) :
    ∃ (c0 c1 c2 c3 c4 c5 : Value) (y0 y1 y2 y3 y4 y5 : DataW H × List MemPlace) (m : Nat), cs = [c0, c1, c2, c3, c4, c5] ∧ x.1 = .agg [y0.1, y1.1, y2.1, y3.1, y4.1, y5.1] ∧
      DataW.trod enc P W base sp held m f0.type [c0] = some y0 ∧ DataW.trod enc P W base sp held m f1.type [c1] = some y1 ∧ DataW.trod enc P W base sp held m f2.type [c2] = some y2 ∧
      DataW.trod enc P W base sp held m f3.type [c3] = some y3 ∧ DataW.trod enc P W base sp held m f4.type [c4] = some y4 ∧ DataW.trod enc P W base sp held m f5.type [c5] = some y5 := by
  obtain ⟨xs, m, _, rfl, hl, hlen, hx⟩ := DataW.trod_struct hs h
  obtain ⟨c0, c1, c2, c3, c4, c5, rfl⟩ := six_list (hl.trans hC)
  obtain ⟨y0, y1, y2, y3, y4, y5, rfl⟩ := six_list (hlen.trans rfl)
  obtain ⟨o0, e0⟩ := hone_of hone 0 f0 rfl
  obtain ⟨o1, e1⟩ := hone_of hone 1 f1 rfl
  obtain ⟨o2, e2⟩ := hone_of hone 2 f2 rfl
  obtain ⟨o3, e3⟩ := hone_of hone 3 f3 rfl
  obtain ⟨o4, e4⟩ := hone_of hone 4 f4 rfl
  obtain ⟨o5, e5⟩ := hone_of hone 5 f5 rfl
  have h0 := hx 0 f0 rfl
  have h1 := hx 1 f1 rfl
  have h2 := hx 2 f2 rfl
  have h3 := hx 3 f3 rfl
  have h4 := hx 4 f4 rfl
  have h5 := hx 5 f5 rfl
  rw [o0, e0] at h0
  rw [o1, e1] at h1
  rw [o2, e2] at h2
  rw [o3, e3] at h3
  rw [o4, e4] at h4
  rw [o5, e5] at h5
  exact ⟨c0, c1, c2, c3, c4, c5, y0, y1, y2, y3, y4, y5, m, rfl, rfl, h0, h1, h2, h3, h4, h5⟩
variable {enc : TypeId × Value → H} {W : World} {base : Nat} {sp : Nat → Bool} {held : Bool}
/-- A list of Bools, by its cell. -/
theorem open_keep {n : Nat} {cs : List Value} {x : DataW H × List MemPlace} (h : DataW.trod enc Tryz.prog W base sp held n 37 cs = some x) : ∃ (kv : Value) (l : List Bool), cs = [kv] ∧ KpR W W.heap.size kv l ∧ l.length + 1 ≤ Rows.uptoBulk x.1 := by
  rcases open_slice1 Tryz.underlying37 (by kernel_rfl) h with ⟨rfl, rfl⟩ | ⟨a, len, cap, m, k, V, D, Pl, rfl, hb, hl, hm, hmm, rfl, hx⟩
  · exact ⟨_, [], rfl, ⟨none, 0, rfl, fun i u hu => by simp at hu⟩, by show 0 + 1 ≤ Rows.uptoBulk DataW.nil; rw [Rows.uptoBulk]; exact Nat.le_refl 1⟩
  · have hlm : len ≤ m := by rw [hmm]; split <;> omega
    obtain ⟨f, hf⟩ := choose_lt (α := Bool) (n := len) (p := fun i b => V i = .bool b) (fun i hi => by
      obtain ⟨_, h2⟩ := hx i (by omega)
      obtain ⟨b, e, _⟩ := DataW.trod_bool Tryz.underlying4 h2
      exact ⟨b, by simpa using e⟩)
    refine ⟨_, (List.range len).map f, rfl, ⟨some a, cap, by simp, fun i u hu => ?_⟩, ?_⟩
    · have hi : i < len := by have := (List.getElem?_eq_some_iff.1 hu).1; simpa using this
      have hc := (hx i (by omega)).1
      have h0 := (hx 0 (by omega)).1
      obtain ⟨b, o, spot⟩ := a
      have hspot : spot = none := by simpa [Addr.add] using World.cell?_spot h0
      subst hspot
      rw [Go.WideShapes.add_plain] at hc
      refine ⟨b, o, rfl, World.block_lt_of_cell? W _ hc, ?_⟩
      rw [hc, hf i hi]
      simp [hi] at hu
      rw [← hu]
    · show ((List.range len).map f).length + 1 ≤ Rows.uptoBulk (DataW.slice ((List.range len).map D) _)
      rw [Rows.uptoBulk]
      have := bulk_len ((List.range len).map D)
      rw [List.length_map, List.length_range] at *
      omega
instance : Inhabited Stp := ⟨noStp⟩
theorem wf_u8 {x : Int} (h : (Lit.int .u8 x).wf = true) : 0 ≤ x ∧ x < 256 := by
  have := h
  simp [Lit.wf, IntKind.min, IntKind.max, IntKind.signed, IntKind.bits] at this
  omega
/-- A step, by its cells. -/
theorem open_step {n : Nat} {cs : List Value} {x : DataW H × List MemPlace} (h : DataW.trod enc Tryz.prog W base sp held n 39 cs = some x) : ∃ (s : Stp) (kv : Value), cs = stpC s kv ∧ KpR W W.heap.size kv s.keep ∧ wtOne s ≤ Rows.uptoBulk x.1 := by
  obtain ⟨c0, c1, c2, c3, c4, c5, y0, y1, y2, y3, y4, y5, m, rfl, e, h0, h1, h2, h3, h4, h5⟩ := open_six Tryz.underlying39 (by kernel_rfl) (by kernel_rfl) h
  obtain ⟨k, q0, rfl, w0⟩ := DataW.trod_int Tryz.underlying36 h0
  obtain ⟨a, q1, rfl, _⟩ := DataW.trod_string Tryz.underlying9 h1
  obtain ⟨b, q2, rfl, _⟩ := DataW.trod_string Tryz.underlying9 h2
  obtain ⟨c, q3, rfl, _⟩ := DataW.trod_string Tryz.underlying9 h3
  obtain ⟨v, q4, rfl, _⟩ := DataW.trod_int Tryz.underlying3 h4
  obtain ⟨kv, l, q5, hk, hb⟩ := open_keep h5
  obtain ⟨kn, rfl⟩ := Int.eq_ofNat_of_zero_le (wf_u8 w0).1
  simp only [List.cons.injEq, and_true] at q0 q1 q2 q3 q4 q5
  subst q0 q1 q2 q3 q4 q5
  refine ⟨⟨kn, a, b, c, v, l⟩, _, rfl, hk, ?_⟩
  rw [e]
  have z := fun (s : ByteArray) => show s.data.toList.length = s.size from by rw [Array.length_toList]; rfl
  show 7 + a.size + b.size + c.size + l.length ≤ _
  simp only [Rows.uptoBulk, Rows.uptoBulkAll, z]
  omega
/-- A list of steps, by its cell. -/
theorem open_steps {n : Nat} {cs : List Value} {x : DataW H × List MemPlace} (h : DataW.trod enc Tryz.prog W base sp held n 22 cs = some x) : ∃ (l : List Stp) (A : Option Addr) (c : Nat), cs = [.slice A l.length c] ∧ StsR W W.heap.size A l ∧ wtS l ≤ Rows.uptoBulk x.1 := by
  have hC : Tryz.prog.cellsOf 39 = 6 := by kernel_rfl
  rcases open_slice Tryz.underlying22 h with ⟨rfl, rfl⟩ | ⟨a, len, cap, m, k, D, Pl, rfl, hb, hl, hm, hmm, rfl, hx⟩
  · exact ⟨[], none, 0, rfl, ⟨[], rfl, fun i u hu => by simp [flatS] at hu, fun i s v hs => by simp at hs⟩, Nat.zero_le _⟩
  have hlm : len ≤ m := by rw [hmm]; split <;> omega
  have each : ∀ i, i < len → ∃ q : Stp × Value, W.cells? base (a.add (i * 6)) 6 = some (stpC q.1 q.2) ∧ KpR W W.heap.size q.2 q.1.keep ∧ wtOne q.1 ≤ Rows.uptoBulk (D i) := fun i hi => by
    obtain ⟨cs', h1, h2⟩ := hx i (by omega)
    rw [hC] at h1
    obtain ⟨s, kv, rfl, h3, h4⟩ := open_step h2
    exact ⟨(s, kv), h1, h3, h4⟩
  haveI : Inhabited (Stp × Value) := ⟨(noStp, .nilIface)⟩
  obtain ⟨q, hq⟩ := choose_lt each
  refine ⟨(List.range len).map fun i => (q i).1, some a, cap, by simp, ⟨(List.range len).map fun i => (q i).2, by simp, ?_, ?_⟩, ?_⟩
  · intro i u hu
    have hz : ((List.range len).map fun i => (q i).1).zip ((List.range len).map fun i => (q i).2) = (List.range len).map q := by
      rw [List.zip_map']
    rw [hz] at hu
    have hi : i < len * 6 := by have := (List.getElem?_eq_some_iff.1 hu).1; rw [flatS_length] at this; simpa using this
    have hk : i / 6 < len := by omega
    have hg := flatS_get (l := (List.range len).map q) (k := i / 6) (x := q (i / 6)) (by simp [hk]) (i % 6) (by omega)
    rw [show 6 * (i / 6) + i % 6 = i from by omega, hu] at hg
    have hc := (World.cells?_some (hq (i / 6) hk).1).2.2 (i % 6) (by omega)
    rw [← hg, Go.Deep.add_add, show i / 6 * 6 + i % 6 = i from by omega] at hc
    have hc0 := (World.cells?_some (hq 0 (by omega)).1).2.2 0 (by omega)
    obtain ⟨b, o, spot⟩ := a
    have hspot : spot = none := by simpa [Addr.add] using World.cell?_spot (hc0.trans (show (stpC (q 0).1 (q 0).2)[0]? = some _ from rfl))
    subst hspot
    rw [Go.WideShapes.add_plain] at hc
    exact ⟨b, o, rfl, World.block_lt_of_cell? W _ hc, hc⟩
  · intro i s v hs hv
    have hi : i < len := by have := (List.getElem?_eq_some_iff.1 hs).1; simpa using this
    simp [hi] at hs hv
    subst hs hv
    exact (hq i hi).2.1
  · show wtS _ ≤ Rows.uptoBulk (DataW.slice ((List.range len).map D) _)
    rw [Rows.uptoBulk]
    have key : ∀ L : List Nat, (∀ i ∈ L, i < len) → wtS (L.map fun i => (q i).1) ≤ Rows.uptoBulkAll (L.map D) := by
      intro L
      induction L with
      | nil => intro _; exact Nat.zero_le _
      | cons i L ih =>
        intro hL
        have h1 := ih (fun j hj => hL j (List.mem_cons_of_mem _ hj))
        have h2 := (hq i (hL i (List.mem_cons_self ..))).2.2
        show wtOne (q i).1 + wtS (L.map fun i => (q i).1) ≤ _
        rw [List.map_cons, Rows.uptoBulkAll]
        omega
    have := key (List.range len) (fun i hi => List.mem_range.1 hi)
    omega
set_option maxRecDepth 100000 in
theorem open_stepsV {r : Reach} {b0 : Nat} {v : Value} {d : DataW H} {p : List MemPlace} (hv : Value.okWide Tryz.prog W r b0 22 v) (h : DataW.Trod enc Tryz.prog W base sp held 22 v d p) : ∃ (l : List Stp) (A : Option Addr) (c : Nat), v = .slice A l.length c ∧ StsR W W.heap.size A l ∧ wtS l ≤ Rows.uptoBulk d := by
  obtain ⟨a, len, cap, rfl⟩ := okWide_slice Tryz.underlying22 hv
  obtain ⟨n, hn⟩ := h
  obtain ⟨l, A, c, e, h1, h2⟩ := open_steps hn
  exact ⟨l, A, c, (List.cons.inj e).1, h1, h2⟩
set_option maxRecDepth 100000 in
theorem open_stepV {r : Reach} {b0 : Nat} {v : Value} {d : DataW H} {p : List MemPlace} (hv : Value.okWide Tryz.prog W r b0 39 v) (h : DataW.Trod enc Tryz.prog W base sp held 39 v d p) : ∃ (s : Stp) (kv : Value), v = stpV s kv ∧ KpR W W.heap.size kv s.keep ∧ wtOne s ≤ Rows.uptoBulk d := by
  obtain ⟨cs, rfl, _⟩ := okWide_struct Tryz.underlying39 hv
  obtain ⟨n, hn⟩ := h
  obtain ⟨s, kv, e, h1, h2⟩ := open_step hn
  refine ⟨s, kv, ?_, h1, h2⟩
  have e' : cs = (stpC s kv).toArray := Array.toList_inj.1 e
  rw [e']
  rfl
end
end Go.Proofs.YtahnnebpadbopaaGreatDoor
