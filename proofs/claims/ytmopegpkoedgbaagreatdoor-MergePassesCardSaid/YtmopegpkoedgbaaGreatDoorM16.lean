/- Lemmas for the row: PoolW, PoolA, PoolB, PoolC, PoolD, PoolE, PoolF. -/
import Derived.Test.YtmopegpkoedgbaaGreatDoorM10
import Derived.Laws.StructEq
import Derived.StillTailTactics
set_option linter.unusedVariables false
set_option linter.unusedSimpArgs false
/- An arena in memory: words for the walks; pool.holds, free, idle; Over. -/
namespace Go.Proofs.YtmopegpkoedgbaaGreatDoor
open Go.RowKit Go.Sort

def frmA (f : Frm) : Value := .agg #[.string f.nm, .int .i64 f.sec, .string f.dt, .int .i64 f.pins, .bool f.dirty, .int .u64 f.tick, .bool f.leased]
def zeroA : Value := .agg #[.string ⟨#[]⟩, .int .i64 0, .string ⟨#[]⟩, .int .i64 0, .bool false, .int .u64 0, .bool false]
theorem guard_frame : Tryz.prog.eqGuardType Tryz.prog.depth 233 = false := by kernel_rfl
theorem toList_nil_iff (s : ByteArray) : (s.toList = []) ↔ s = ⟨#[]⟩ := ⟨fun h => toList_inj' (by rw [h, Lib.toList_data]), fun h => by rw [h, Lib.toList_data]⟩
theorem eql_frame (f : Frm) (w : World) : (binOp .eql 233 (frmA f) zeroA).run Tryz.prog w = .ok (.bool (freeF f)) w := by
  have hS : Tryz.prog.underlying 233 = some (.struct (Tryz.prog.fieldsOf 233)) := by kernel_rfl
  have hp : Tryz.prog.stoodInHeld 233 = false := by kernel_rfl
  obtain ⟨nm, sec, dt, pins, dirty, tick, leased⟩ := f
  unfold frmA zeroA
  rw [run_eql_struct, show (10000 : Nat) = 9999 + 1 from rfl, run_equalIn_agg w 9999 233 _ _ hS hp]
  simp only [Program.fieldsOf, Tryz.underlying233]
  go_simp
  have e1 := toList_nil_iff nm
  have e2 := toList_nil_iff dt
  by_cases h0 : nm = ⟨#[]⟩
  · by_cases h1 : sec = 0
    · by_cases h2 : dt = ⟨#[]⟩
      · by_cases h3 : pins = 0
        · by_cases h5 : tick = 0
          · subst h0 h1 h2 h3 h5
            cases dirty <;> cases leased <;> simp [freeF, zeroF]
          · cases dirty <;> cases leased <;> simp [freeF, zeroF, h0, h1, h2, h3, h5] <;> omega
        · simp [freeF, zeroF, h0, h1, h2, h3]
      · have : ¬ dt.toList = [] := fun h => h2 (e2.1 h)
        simp [freeF, zeroF, h0, h1, h2, this]
    · simp [freeF, zeroF, h0, h1]
  · have : ¬ nm.toList = [] := fun h => h0 (e1.1 h)
    simp [freeF, zeroF, h0, this]
theorem free_any (f : Frm) (w : World) : Calls Tryz.prog 206 #[frmA f] w fun e w' => e = .returned (.bool (freeF f)) ∧ Below w.heap.size w w' := by
  have hq := fun W => eql_frame f W
  obtain ⟨nm, sec, dt, pins, dirty, tick, leased⟩ := f
  have hg := guard_frame
  unfold frmA zeroA at *
  dsimp only at hq ⊢
  obtain ⟨r, hr⟩ : ∃ r, r = freeF ⟨nm, sec, dt, pins, dirty, tick, leased⟩ := ⟨_, rfl⟩
  rw [← hr] at hq ⊢
  clear hr
  go_enter Tryz.func206, Tryz.ntmps206
  go_wp2_with fail
  go_ret
  exact ⟨rfl, ba1 _ _⟩
theorem holds_any (f : Frm) (w : World) : Calls Tryz.prog 177 #[frmA f] w fun e w' => e = .returned (.bool (holdsF f)) ∧ Below w.heap.size w w' := by
  have he := isEmpty_str f.nm
  have hh : holdsF f = !f.nm.toList.isEmpty := by rw [he]; unfold holdsF; by_cases h : f.nm.size = 0 <;> simp [h]; omega
  rw [hh]
  obtain ⟨nm, sec, dt, pins, dirty, tick, leased⟩ := f
  unfold frmA
  dsimp only
  clear he hh
  go_enter Tryz.func177, Tryz.ntmps177
  go_wp2_with fail
  go_ret
  refine ⟨?_, ba1 _ _⟩
  first | rfl | (congr 1; congr 1; cases nm.toList <;> rfl) | trace_state
theorem seven_cells {w : World} {g : Nat} {t : TypeId} {a b c d e f h : Value} (k : Bk w g t #[a, b, c, d, e, f, h]) : w.cell? ⟨g, 0, none⟩ = some a ∧ w.cell? ⟨g, 1, none⟩ = some b ∧ w.cell? ⟨g, 2, none⟩ = some c ∧ w.cell? ⟨g, 3, none⟩ = some d ∧ w.cell? ⟨g, 4, none⟩ = some e ∧ w.cell? ⟨g, 5, none⟩ = some f ∧ w.cell? ⟨g, 6, none⟩ = some h := ⟨k.cell 0, k.cell 1, k.cell 2, k.cell 3, k.cell 4, k.cell 5, k.cell 6⟩
theorem six_cells {w : World} {g : Nat} {t : TypeId} {a b c d e f : Value} (k : Bk w g t #[a, b, c, d, e, f]) : w.cell? ⟨g, 0, none⟩ = some a ∧ w.cell? ⟨g, 1, none⟩ = some b ∧ w.cell? ⟨g, 2, none⟩ = some c ∧ w.cell? ⟨g, 3, none⟩ = some d ∧ w.cell? ⟨g, 4, none⟩ = some e ∧ w.cell? ⟨g, 5, none⟩ = some f := ⟨k.cell 0, k.cell 1, k.cell 2, k.cell 3, k.cell 4, k.cell 5⟩
theorem idle_any (f : Frm) (w : World) : Calls Tryz.prog 205 #[frmA f] w fun e w' => e = .returned (.bool (idleF f)) ∧ Below w.heap.size w w' := by
  have hf := fun W => free_any f W
  have hh := fun W => holds_any f W
  have HF := hide hf
  have HH := hide hh
  have hi : idleF f = (freeF f || (holdsF f && decide (f.pins = 0))) := rfl
  rw [hi]
  obtain ⟨r, hr⟩ : ∃ r, r = freeF f := ⟨_, rfl⟩
  obtain ⟨u, hu⟩ : ∃ u, u = holdsF f := ⟨_, rfl⟩
  rw [← hr] at HF ⊢
  rw [← hu] at HH ⊢
  obtain ⟨nm, sec, dt, pins, dirty, tick, leased⟩ := f
  have hk := Bk.new w 233 #[.string nm, .int .i64 sec, .string dt, .int .i64 pins, .bool dirty, .int .u64 tick, .bool leased]
  have HK := hide hk
  unfold frmA at *
  dsimp only at HF HH ⊢
  clear hf hh hr hu hi hk
  cases r with
  | true =>
    go_enter Tryz.func205, Tryz.ntmps205
    go_wp2_with (go_at_call 206; refine Calls.mono (HF.out _) ?_; rintro e w1 ⟨rfl, hb1⟩; have HB1 := hide hb1; clear hb1)
    go_ret
    exact ⟨by simp, btrans (ba1 _ _) HB1.out⟩
  | false =>
    cases u with
    | false =>
      go_enter Tryz.func205, Tryz.ntmps205
      go_wp2_with (first
        | (go_at_call 206; refine Calls.mono (HF.out _) ?_; rintro e w1 ⟨rfl, hb1⟩; have hk1 := HK.out.keep hb1; obtain ⟨c0, c1, c2, c3, c4, c5, c6⟩ := seven_cells hk1; have hl1 := hk1.lt; have HK1 := hide hk1; have HB1 := hide hb1; clear hb1 hk1)
        | (go_at_call 177; refine Calls.mono (HH.out _) ?_; rintro e w2 ⟨rfl, hb2⟩; have HB2 := hide hb2; clear hb2))
      go_ret
      exact ⟨by simp, btrans (btrans (ba1 _ _) HB1.out) HB2.out⟩
    | true =>
      go_enter Tryz.func205, Tryz.ntmps205
      go_wp2_with (first
        | (go_at_call 206; refine Calls.mono (HF.out _) ?_; rintro e w1 ⟨rfl, hb1⟩; have hk1 := HK.out.keep hb1; obtain ⟨c0, c1, c2, c3, c4, c5, c6⟩ := seven_cells hk1; have hl1 := hk1.lt; have HK1 := hide hk1; have HB1 := hide hb1; clear hb1 hk1)
        | (go_at_call 177; refine Calls.mono (HH.out _) ?_; rintro e w2 ⟨rfl, hb2⟩; have hk2 := HK1.out.keep hb2; have y3 := hk2.cell 3; have HB2 := hide hb2; clear hb2 hk2))
      go_ret
      refine ⟨?_, btrans (btrans (ba1 _ _) HB1.out) HB2.out⟩
      by_cases hp : pins = 0 <;> simp [hp]
/-- No frame is pinned too often. -/
def PinsOK (a : Ar) : Prop := ∀ f ∈ a.frames, 0 ≤ f.pins ∧ f.pins ≤ 256
theorem PinsOK.at_ {a : Ar} (h : PinsOK a) {i : Nat} {f : Frm} (hf : a.frames[i]? = some f) : 0 ≤ f.pins ∧ f.pins ≤ 256 := h f (List.mem_of_getElem? hf)
theorem PinsOK.set_ {a : Ar} (h : PinsOK a) (i : Nat) {f : Frm} (hf : 0 ≤ f.pins ∧ f.pins ≤ 256) : PinsOK (setF a i f) := fun g hg => by
  rcases List.mem_or_eq_of_mem_set hg with h1 | rfl
  · exact h g h1
  · exact hf
/-- An arena lies in block p. -/
def ArAt (w : World) (B : Fld) (p : Nat) (a : Ar) : Prop := ∃ q fb, Bk w p 136 #[.pointer (some ⟨q, 0, none⟩), .slice (some ⟨fb, 0, none⟩) a.frames.length a.frames.length, .int .u64 a.tick, .int .u64 a.reads, .int .u64 a.writes, .int .i64 a.peak] ∧ Bk w fb 233 (flatF a.frames).toArray ∧ DvAt w B q a.dev ∧ B.ok p ∧ B.ok fb ∧ 1 ≤ a.frames.length ∧ a.frames.length ≤ 256 ∧ PinsOK a
section
variable {B : Fld} {p : Nat} {w w' : World} {a : Ar}
theorem ArAt.keep (h : ArAt w B p a) (hb : Below w.heap.size w w') : ArAt w' B p a := by
  obtain ⟨q, fb, h1, h2, h3, h4⟩ := h
  exact ⟨q, fb, h1.keep hb, h2.keep hb, h3.keep hb, h4⟩
theorem ArAt.drew (h : ArAt w B p a) : ArAt w.drew B p a := h
theorem ArAt.far (h : ArAt w B p a) {g : Nat} {t : TypeId} {cs : Array Value} (hb : Bk w g t cs) (ht : ¬ ATy t) (i : Nat) (u : Value) : ArAt (w.setCell ⟨g, i, none⟩ u) B p a := by
  obtain ⟨q, fb, h1, h2, h3, h4⟩ := h
  unfold ATy at ht
  exact ⟨q, fb, h1.far (p := ⟨g, i, none⟩) (fun e => h1.ne_ hb (fun e => ht (by rw [← e]; simp)) e) u, h2.far (p := ⟨g, i, none⟩) (fun e => h2.ne_ hb (fun e => ht (by rw [← e]; simp)) e) u, h3.far hb (fun e => ht (by rw [e]; simp)) (fun e => ht (by rw [e]; simp)) (fun e => ht (by rw [e]; simp)) i u, h4⟩
end
/-- The cells of a frame in the row of frames. -/
theorem frm_cells {w : World} {g : Nat} {t : TypeId} {l : List Frm} (h : Bk w g t (flatF l).toArray) {k : Nat} {f : Frm} (hf : l[k]? = some f) : w.cell? ⟨g, k * 7, none⟩ = some (.string f.nm) ∧ w.cell? ⟨g, k * 7 + 1, none⟩ = some (.int .i64 f.sec) ∧ w.cell? ⟨g, k * 7 + 2, none⟩ = some (.string f.dt) ∧ w.cell? ⟨g, k * 7 + 3, none⟩ = some (.int .i64 f.pins) ∧ w.cell? ⟨g, k * 7 + 4, none⟩ = some (.bool f.dirty) ∧ w.cell? ⟨g, k * 7 + 5, none⟩ = some (.int .u64 f.tick) ∧ w.cell? ⟨g, k * 7 + 6, none⟩ = some (.bool f.leased) := by
  have key : ∀ j, j < 7 → w.cell? ⟨g, k * 7 + j, none⟩ = (frmV f)[j]? := fun j hj => by
    have := flatF_get hf j hj
    rw [h.cell (k * 7 + j), List.getElem?_toArray, show k * 7 + j = 7 * k + j by omega, this]
  exact ⟨key 0 (by omega), key 1 (by omega), key 2 (by omega), key 3 (by omega), key 4 (by omega), key 5 (by omega), key 6 (by omega)⟩
/-- A cell of a frame is written. -/
theorem flatF_set : ∀ {l : List Frm} {k : Nat} {f g : Frm} {j : Nat} {u : Value}, l[k]? = some f → j < 7 → (frmV f).set j u = frmV g → (flatF l).set (k * 7 + j) u = flatF (l.set k g) := by
  intro l
  induction l with
  | nil => intro k f g j u h; cases h
  | cons y l ih =>
    intro k f g j u h hj e
    have e1 : flatF (y :: l) = frmV y ++ flatF l := rfl
    cases k with
    | zero =>
      cases h
      rw [e1, Nat.zero_mul, Nat.zero_add, List.set_append_left _ _ (by show j < 7; exact hj), e]; rfl
    | succ k =>
      rw [e1, List.set_append_right _ _ (by show 7 ≤ (k + 1) * 7 + j; omega), show (k + 1) * 7 + j - (frmV y).length = k * 7 + j by show (k + 1) * 7 + j - 7 = _; omega, ih (by simpa using h) hj e]
      rfl
theorem Bk.putF {w : World} {g : Nat} {t : TypeId} {l : List Frm} (h : Bk w g t (flatF l).toArray) {k : Nat} {f f' : Frm} {j : Nat} {u : Value} (hf : l[k]? = some f) (hj : j < 7) (e : (frmV f).set j u = frmV f') : Bk (w.setCell ⟨g, k * 7 + j, none⟩ u) g t (flatF (l.set k f')).toArray := by
  have := h.set_ (k * 7 + j) u
  rw [List.setIfInBounds_toArray, flatF_set hf hj e] at this
  exact this
/-- A whole frame is written. -/
def put7 (w : World) (g k : Nat) (f : Frm) : World := ((((((w.setCell ⟨g, k * 7, none⟩ (.string f.nm)).setCell ⟨g, k * 7 + 1, none⟩ (.int .i64 f.sec)).setCell ⟨g, k * 7 + 2, none⟩ (.string f.dt)).setCell ⟨g, k * 7 + 3, none⟩ (.int .i64 f.pins)).setCell ⟨g, k * 7 + 4, none⟩ (.bool f.dirty)).setCell ⟨g, k * 7 + 5, none⟩ (.int .u64 f.tick)).setCell ⟨g, k * 7 + 6, none⟩ (.bool f.leased)
theorem set_get {l : List Frm} {k : Nat} {f g : Frm} (h : l[k]? = some f) : (l.set k g)[k]? = some g := by
  obtain ⟨hk, _⟩ := List.getElem?_eq_some_iff.1 h
  simp [hk]
theorem put7_bk {w : World} {g : Nat} {t : TypeId} {l : List Frm} (h : Bk w g t (flatF l).toArray) {k : Nat} {f0 : Frm} (hf : l[k]? = some f0) (f : Frm) : Bk (put7 w g k f) g t (flatF (l.set k f)).toArray := by
  have h0 := h.putF (j := 0) (u := .string f.nm) (f' := { f0 with nm := f.nm }) hf (by omega) rfl
  have h1 := h0.putF (j := 1) (u := .int .i64 f.sec) (f' := { f0 with nm := f.nm, sec := f.sec }) (set_get hf) (by omega) rfl
  rw [List.set_set] at h1
  have h2 := h1.putF (j := 2) (u := .string f.dt) (f' := { f0 with nm := f.nm, sec := f.sec, dt := f.dt }) (set_get hf) (by omega) rfl
  rw [List.set_set] at h2
  have h3 := h2.putF (j := 3) (u := .int .i64 f.pins) (f' := { f0 with nm := f.nm, sec := f.sec, dt := f.dt, pins := f.pins }) (set_get hf) (by omega) rfl
  rw [List.set_set] at h3
  have h4 := h3.putF (j := 4) (u := .bool f.dirty) (f' := { f0 with nm := f.nm, sec := f.sec, dt := f.dt, pins := f.pins, dirty := f.dirty }) (set_get hf) (by omega) rfl
  rw [List.set_set] at h4
  have h5 := h4.putF (j := 5) (u := .int .u64 f.tick) (f' := { f0 with nm := f.nm, sec := f.sec, dt := f.dt, pins := f.pins, dirty := f.dirty, tick := f.tick }) (set_get hf) (by omega) rfl
  rw [List.set_set] at h5
  have h6 := h5.putF (j := 6) (u := .bool f.leased) (f' := f) (set_get hf) (by omega) rfl
  rw [List.set_set] at h6
  exact h6
theorem put7_far {w : World} {g p : Nat} {t : TypeId} {cs : Array Value} (h : Bk w p t cs) (hp : p ≠ g) (k : Nat) (f : Frm) : Bk (put7 w g k f) p t cs := by
  unfold put7
  exact ((((((h.far (p := ⟨g, k * 7, none⟩) hp _).far (p := ⟨g, k * 7 + 1, none⟩) hp _).far (p := ⟨g, k * 7 + 2, none⟩) hp _).far (p := ⟨g, k * 7 + 3, none⟩) hp _).far (p := ⟨g, k * 7 + 4, none⟩) hp _).far (p := ⟨g, k * 7 + 5, none⟩) hp _).far (p := ⟨g, k * 7 + 6, none⟩) hp _
theorem put7_dv {w : World} {B : Fld} {q g : Nat} {d : Dsk} {cs : Array Value} (h : DvAt w B q d) (hb : Bk w g 233 cs) (k : Nat) (f : Frm) : DvAt (put7 w g k f) B q d := by
  unfold put7
  have h0 := h.far hb (by decide) (by decide) (by decide) (k * 7) (.string f.nm)
  have b0 := hb.set_ (k * 7) (.string f.nm)
  have h1 := h0.far b0 (by decide) (by decide) (by decide) (k * 7 + 1) (.int .i64 f.sec)
  have b1 := b0.set_ (k * 7 + 1) (.int .i64 f.sec)
  have h2 := h1.far b1 (by decide) (by decide) (by decide) (k * 7 + 2) (.string f.dt)
  have b2 := b1.set_ (k * 7 + 2) (.string f.dt)
  have h3 := h2.far b2 (by decide) (by decide) (by decide) (k * 7 + 3) (.int .i64 f.pins)
  have b3 := b2.set_ (k * 7 + 3) (.int .i64 f.pins)
  have h4 := h3.far b3 (by decide) (by decide) (by decide) (k * 7 + 4) (.bool f.dirty)
  have b4 := b3.set_ (k * 7 + 4) (.bool f.dirty)
  have h5 := h4.far b4 (by decide) (by decide) (by decide) (k * 7 + 5) (.int .u64 f.tick)
  have b5 := b4.set_ (k * 7 + 5) (.int .u64 f.tick)
  exact h5.far b5 (by decide) (by decide) (by decide) (k * 7 + 6) (.bool f.leased)
theorem put7_afr {w0 w : World} {B : Fld} {g : Nat} {cs : Array Value} (h : AFr ATy B w0 w) (hb : Bk w g 233 cs) (hg : B.ok g) (k : Nat) (f : Frm) : AFr ATy B w0 (put7 w g k f) := by
  unfold put7
  have ht : ATy 233 := by unfold ATy; simp
  have b0 := hb.set_ (k * 7) (.string f.nm)
  have b1 := b0.set_ (k * 7 + 1) (.int .i64 f.sec)
  have b2 := b1.set_ (k * 7 + 2) (.string f.dt)
  have b3 := b2.set_ (k * 7 + 3) (.int .i64 f.pins)
  have b4 := b3.set_ (k * 7 + 4) (.bool f.dirty)
  have b5 := b4.set_ (k * 7 + 5) (.int .u64 f.tick)
  exact ((((((h.set_ hb hg ht _ _).set_ b0 hg ht _ _).set_ b1 hg ht _ _).set_ b2 hg ht _ _).set_ b3 hg ht _ _).set_ b4 hg ht _ _).set_ b5 hg ht _ _
/-- An arena behind a whole frame that is written. -/
theorem put7_ar {w : World} {B : Fld} {p q fb k : Nat} {a : Ar} (hk : Bk w p 136 #[.pointer (some ⟨q, 0, none⟩), .slice (some ⟨fb, 0, none⟩) a.frames.length a.frames.length, .int .u64 a.tick, .int .u64 a.reads, .int .u64 a.writes, .int .i64 a.peak]) (hf : Bk w fb 233 (flatF a.frames).toArray) (hd : DvAt w B q a.dev) (hr : B.ok p ∧ B.ok fb ∧ 1 ≤ a.frames.length ∧ a.frames.length ≤ 256 ∧ PinsOK a) (hl : k < a.frames.length) (f : Frm) (hp : 0 ≤ f.pins ∧ f.pins ≤ 256) : ArAt (put7 w fb k f) B p (setF a k f) := by
  obtain ⟨r1, r2, r3, r4, r5⟩ := hr
  refine ⟨q, fb, ?_, put7_bk hf (List.getElem?_eq_getElem hl) f, put7_dv hd hf k f, r1, r2, by simp [setF]; omega, by simp [setF]; omega, r5.set_ k hp⟩
  simp only [setF, List.length_set]
  exact put7_far hk (fun e => hk.ne_ hf (by decide) e) k f
theorem seven_free {w : World} {g : Nat} {t : TypeId} {cs : Array Value} (h : Bk w g t cs) (k : Nat) : w.frozen? ⟨g, k * 7, none⟩ = false ∧ w.frozen? ⟨g, k * 7 + 1, none⟩ = false ∧ w.frozen? ⟨g, k * 7 + 2, none⟩ = false ∧ w.frozen? ⟨g, k * 7 + 3, none⟩ = false ∧ w.frozen? ⟨g, k * 7 + 4, none⟩ = false ∧ w.frozen? ⟨g, k * 7 + 5, none⟩ = false ∧ w.frozen? ⟨g, k * 7 + 6, none⟩ = false := ⟨h.free _, h.free _, h.free _, h.free _, h.free _, h.free _, h.free _⟩
end Go.Proofs.YtmopegpkoedgbaaGreatDoor
/- Walks: (*pool.Arena).write, busy, Look, Over. -/
namespace Go.Proofs.YtmopegpkoedgbaaGreatDoor
open Go.RowKit Go.Sort

theorem inc_wrap (n : Nat) : IntKind.u64.wrap ((n : Int) + 1) = ((inc64 n : Nat) : Int) := by
  rw [IntKind.wrap_u64]; unfold inc64; omega
theorem dty_a {t : TypeId} (h : DTy t) : ATy t := by
  unfold DTy at h; unfold ATy
  rcases h with h | h | h
  · exact .inl h
  · exact .inr (.inl h)
  · exact .inr (.inr (.inl h))
theorem aty_arena : ATy 136 := by unfold ATy; simp
theorem aty_frame : ATy 233 := by unfold ATy; simp
theorem nd_arena : ¬ DTy 136 := by unfold DTy; decide
theorem nd_frame : ¬ DTy 233 := by unfold DTy; decide
set_option maxRecDepth 100000 in
set_option maxHeartbeats 4000000 in
theorem awrite_any (B : Fld) (p i : Nat) (a : Ar) (w : World) (ha : ArAt w B p a) (hv : InvA a) (hl : i < a.frames.length) :
    Calls Tryz.prog 176 #[.pointer (some ⟨p, 0, none⟩), .int .i64 i] w fun e w' => e = .returned (.int .i64 (writeA a i).2) ∧ ArAt w' B p (writeA a i).1 ∧ AFr ATy B w w' := by
  obtain ⟨q, fb, hk, hf, hd, hp, hfb, hn1, hn2, hpo⟩ := ha
  have hfi := getF_at hl
  obtain ⟨f, hfe⟩ : ∃ f, f = getF a i := ⟨_, rfl⟩
  rw [← hfe] at hfi
  obtain ⟨R, hR⟩ : ∃ R, R = writeD a.dev f.nm f.sec f.dt := ⟨_, rfl⟩
  have hwr : writeA a i = (if R.2 = 0 then setF { a with dev := R.1, writes := inc64 a.writes } i { f with dirty := false } else { a with dev := R.1, writes := inc64 a.writes }, R.2) := by
    unfold writeA; rw [← hfe, ← hR]
  rw [hwr]
  obtain ⟨c0, c1, c2, c3, c4, c5⟩ := six_cells hk
  have f4 := hk.free 4
  have hw4 := inc_wrap a.writes
  obtain ⟨W1, hW1⟩ : ∃ W1, W1 = w.setCell ⟨p, 4, none⟩ (.int .u64 (inc64 a.writes : Nat)) := ⟨_, rfl⟩
  have hk1 : Bk W1 p 136 #[.pointer (some ⟨q, 0, none⟩), .slice (some ⟨fb, 0, none⟩) a.frames.length a.frames.length, .int .u64 a.tick, .int .u64 a.reads, .int .u64 (inc64 a.writes : Nat), .int .i64 a.peak] := by rw [hW1]; exact hk.set_ 4 _
  have hf1 : Bk W1 fb 233 (flatF a.frames).toArray := by rw [hW1]; exact hf.far (p := ⟨p, 4, none⟩) (fun e => hf.ne_ hk (by decide) e) _
  have hd1 : DvAt W1 B q a.dev := by rw [hW1]; exact hd.far hk (by decide) (by decide) (by decide) 4 _
  have hF1 : AFr ATy B w W1 := by rw [hW1]; exact (AFr.refl _ _ _).set_ hk hp aty_arena 4 _
  have hwd := write_disk B q a.dev f.nm f.sec f.dt W1.drew hd1.drew hv.dev
  rw [← hR] at hwd
  have HWD := hide hwd
  have HK1 := hide hk1
  have HF1 := hide hf1
  have HA1 := hide hF1
  have HW1 := hide hW1
  obtain ⟨g0, g1, g2, g3, g4, g5, g6⟩ := frm_cells hf1 hfi
  obtain ⟨d0, d1, d2, d3, d4, d5⟩ := six_cells hk1
  have HFi := hide hfi
  clear hv hk hf hd hk1 hf1 hd1 hF1 hwd hfi hfe hR hwr hW1
  obtain ⟨r1, r2⟩ := R
  dsimp only at HWD ⊢
  go_enter Tryz.func176, Tryz.ntmps176
  go_upto_region 3 with (fail)
  rw [← HW1.out]
  refine wp_region_still_tail 16 (by kernel_rfl) (by kernel_rfl) ?_
  simp only [List.take_succ_cons, List.take_zero, List.drop_succ_cons, List.drop_zero]
  change wpStill _ _ W1.drew _ _ _
  repeat still_step
  refine wpStill_nil ?_
  change wpList _ _ _ _ _ W1.drew
  by_cases h0 : r2 = 0
  · subst h0
    go_wp2_with (go_at_call 112; refine Calls.mono HWD.out ?_; rintro e w2 ⟨rfl, hd2, hf2⟩; have hk2 := (show Bk W1.drew p _ _ from HK1.out).afr hf2 nd_arena; have hfr2 := (show Bk W1.drew fb _ _ from HF1.out).afr hf2 nd_frame; obtain ⟨y0, y1, y2, y3, y4, y5, y6⟩ := frm_cells hfr2 HFi.out; have fz := hfr2.free (i * 7 + 4); have HK2 := hide hk2; have HFR2 := hide hfr2; have HD2 := hide hd2; have HA2 := hide hf2; clear hk2 hfr2 hd2 hf2)
    go_ret
    have hp3 := HFR2.out.putF (j := 4) (u := .bool false) (f' := { f with dirty := false }) HFi.out (by omega) rfl
    refine ⟨rfl, ⟨q, fb, ?_, ?_, ?_, hp, hfb, by simp [setF]; omega, by simp [setF]; omega, PinsOK.set_ (a := { a with dev := r1, writes := inc64 a.writes }) hpo i (f := { f with dirty := false }) (show 0 ≤ f.pins ∧ f.pins ≤ 256 from hpo.at_ HFi.out)⟩, ((HA1.out.drew.trans (HA2.out.wide fun _ => dty_a))).set_ HFR2.out hfb aty_frame _ _⟩
    · have := HK2.out.far (p := ⟨fb, i * 7 + 4, none⟩) (fun e => HK2.out.ne_ HFR2.out (by decide) e) (.bool false)
      simp only [setF, List.length_set]
      exact this
    · exact hp3
    · exact HD2.out.far HFR2.out (by decide) (by decide) (by decide) _ _
  · have hb : (r2 == 0) = false := by simp [h0]
    go_wp2_with (go_at_call 112; refine Calls.mono HWD.out ?_; rintro e w2 ⟨rfl, hd2, hf2⟩; have hk2 := (show Bk W1.drew p _ _ from HK1.out).afr hf2 nd_arena; have hfr2 := (show Bk W1.drew fb _ _ from HF1.out).afr hf2 nd_frame; have HK2 := hide hk2; have HFR2 := hide hfr2; have HD2 := hide hd2; have HA2 := hide hf2; clear hk2 hfr2 hd2 hf2)
    go_ret
    exact ⟨rfl, ⟨q, fb, HK2.out, HFR2.out, HD2.out, hp, hfb, hn1, hn2, hpo⟩, HA1.out.drew.trans (HA2.out.wide fun _ => dty_a)⟩
theorem busy_step {l : List Frm} {k : Nat} {f : Frm} (h : l[k]? = some f) : ((l.take (k + 1)).filter fun f => !freeF f).length = ((l.take k).filter fun f => !freeF f).length + (if freeF f then 0 else 1) := by
  rw [List.take_add_one, h, List.filter_append]
  cases hf : freeF f <;> simp [hf]
theorem busy_le (l : List Frm) (k : Nat) : ((l.take k).filter fun f => !freeF f).length ≤ l.length := by
  have := List.length_filter_le (fun f => !freeF f) (l.take k)
  rw [List.length_take] at this
  omega
set_option maxRecDepth 100000 in
set_option maxHeartbeats 4000000 in
theorem busy_any (B : Fld) (p : Nat) (a : Ar) (w : World) (ha : ArAt w B p a) :
    Calls Tryz.prog 207 #[.pointer (some ⟨p, 0, none⟩)] w fun e w' => e = .returned (.int .i64 (busyA a : Nat)) ∧ Below w.heap.size w w' := by
  obtain ⟨q, fb, hk, hf, hd, hp, hfb, hn1, hn2, hpo⟩ := ha
  obtain ⟨c0, c1, c2, c3, c4, c5⟩ := six_cells hk
  have hfr := fun (f : Frm) W => free_any f W
  have HFr := hide hfr
  have HF := hide hf
  have HBL := hide (busy_le a.frames)
  clear hfr hf hk hd
  unfold busyA
  go_enter Tryz.func207, Tryz.ntmps207
  go_wp2_with fail
  go_loopw [3, 11] (fun s3 i wr => ∃ k : Nat, i = .int .i64 k ∧ k ≤ a.frames.length ∧ s3 = .int .i64 (((a.frames.take k).filter fun f => !freeF f).length : Nat) ∧ Hid (Below w.heap.size w wr)) (fun _ i _ => a.frames.length - (intOf i).toNat)
  case atStart => exact ⟨0, rfl, by omega, v_int (by simp), hide (Below.refl _ _)⟩
  case round =>
    obtain ⟨k, rfl, hk, rfl, hbe⟩ := hrel
    by_cases hlt : k < a.frames.length
    · obtain ⟨f, hx⟩ : ∃ x, a.frames[k]? = some x := ⟨a.frames[k], List.getElem?_eq_getElem hlt⟩
      obtain ⟨g0, g1, g2, g3, g4, g5, g6⟩ := frm_cells (HF.out.keep hbe.out) hx
      have hst := busy_step hx
      have hbl := HBL.out k
      obtain ⟨N, hN⟩ : ∃ N, N = ((a.frames.take k).filter fun f => !freeF f).length := ⟨_, rfl⟩
      rw [← hN] at hst hbl ⊢
      have HST := hide hst
      have hfx := fun W => HFr.out f W
      obtain ⟨r, hr⟩ : ∃ r, r = freeF f := ⟨_, rfl⟩
      rw [← hr] at hfx HST
      unfold frmA at hfx
      have HFX := hide hfx
      clear hst hfx hN hr hx
      cases r with
      | true =>
        go_wp2_with (go_at_call 206; refine (HFX.out _).mono ?_; rintro e w2 ⟨rfl, hb2⟩; have HB2 := hide hb2; clear hb2)
        exact ⟨⟨k + 1, by simp, by omega, v_int (by rw [HST.out]; simp), hide (btrans hbe.out (btrans (ba1 _ _) HB2.out))⟩, by simp [intOf]; omega⟩
      | false =>
        go_wp2_with (go_at_call 206; refine (HFX.out _).mono ?_; rintro e w2 ⟨rfl, hb2⟩; have HB2 := hide hb2; clear hb2)
        exact ⟨⟨k + 1, by simp, by omega, v_int (by rw [HST.out]; simp), hide (btrans hbe.out (btrans (ba1 _ _) HB2.out))⟩, by simp [intOf]; omega⟩
    · obtain rfl : k = a.frames.length := by omega
      go_wp2_with fail
      go_ret
      exact ⟨ret_int (by rw [List.take_length]), hbe.out⟩
theorem look_any (B : Fld) (p i : Nat) (a : Ar) (w : World) (ha : ArAt w B p a) (hl : i < a.frames.length) :
    Calls Tryz.prog 161 #[.pointer (some ⟨p, 0, none⟩), .int .i64 i] w fun e w' => e = .returned (.string (getF a i).dt) ∧ w' = w := by
  obtain ⟨q, fb, hk, hf, hd, hp, hfb, hn1, hn2, hpo⟩ := ha
  obtain ⟨c0, c1, c2, c3, c4, c5⟩ := six_cells hk
  obtain ⟨g0, g1, g2, g3, g4, g5, g6⟩ := frm_cells hf (getF_at hl)
  obtain ⟨f, hfe⟩ : ∃ f, f = getF a i := ⟨_, rfl⟩
  rw [← hfe] at g0 g1 g2 g3 g4 g5 g6 ⊢
  clear hk hf hd hfe
  go_enter Tryz.func161, Tryz.ntmps161
  go_wp2_with fail
  go_ret
  exact ⟨rfl, rfl⟩
set_option maxRecDepth 100000 in
set_option maxHeartbeats 4000000 in
theorem unpin_any (B : Fld) (p i : Nat) (a : Ar) (w : World) (ha : ArAt w B p a) (hl : i < a.frames.length) :
    Calls Tryz.prog 124 #[.pointer (some ⟨p, 0, none⟩), .int .i64 i] w fun e w' => e = .returned (.int .i64 (unpinA a (i : Nat)).2) ∧ ArAt w' B p (unpinA a (i : Nat)).1 ∧ AFr ATy B w w' := by
  have HA := hide ha
  obtain ⟨q, fb, hk, hf, hd, hp, hfb, hn1, hn2, hpo⟩ := ha
  have hfi := getF_at hl
  obtain ⟨f, hfe⟩ : ∃ f, f = getF a i := ⟨_, rfl⟩
  have hu : unpinA a (i : Nat) = if f.pins = 0 then (a, 11) else (setF a i { f with pins := f.pins - 1 }, 0) := by
    unfold unpinA; rw [if_neg (by omega), Int.toNat_natCast, ← hfe]
  rw [← hfe] at hfi
  rw [hu]
  have hpi := hpo.at_ hfi
  obtain ⟨c0, c1, c2, c3, c4, c5⟩ := six_cells hk
  obtain ⟨g0, g1, g2, g3, g4, g5, g6⟩ := frm_cells hf hfi
  have fz := hf.free (i * 7 + 3)
  have HK := hide hk
  have HF := hide hf
  have HD := hide hd
  have HFi := hide hfi
  have HPo := hide hpo
  clear hk hf hd hfi hfe hu hpo
  by_cases h0 : f.pins = 0
  · rw [if_pos h0]
    have h0b : (f.pins == 0) = true := by simp [h0]
    go_enter Tryz.func124, Tryz.ntmps124
    go_wp2_with fail
    go_ret
    exact ⟨rfl, HA.out, AFr.refl _ _ _⟩
  · rw [if_neg h0]
    have h0b : (f.pins == 0) = false := by simp [h0]
    have hw : IntKind.i64.wrap (f.pins - 1) = f.pins - 1 := IntWalk.i64_in _ ⟨by omega, by omega⟩
    have hpn : 0 ≤ f.pins - 1 ∧ f.pins - 1 ≤ 256 := by omega
    have H0 := hide h0
    clear h0
    go_enter Tryz.func124, Tryz.ntmps124
    go_wp2_with fail
    go_ret
    have hp3 := HF.out.putF (j := 3) (u := .int .i64 (f.pins - 1)) (f' := { f with pins := f.pins - 1 }) HFi.out (by omega) rfl
    refine ⟨rfl, ⟨q, fb, ?_, hp3, ?_, hp, hfb, by simp [setF]; omega, by simp [setF]; omega, HPo.out.set_ i hpn⟩, (AFr.refl _ _ _).set_ HF.out hfb aty_frame _ _⟩
    · have := HK.out.far (p := ⟨fb, i * 7 + 3, none⟩) (fun e => HK.out.ne_ HF.out (by decide) e) (.int .i64 (f.pins - 1))
      simp only [setF, List.length_set]
      exact this
    · exact HD.out.far HF.out (by decide) (by decide) (by decide) _ _
end Go.Proofs.YtmopegpkoedgbaaGreatDoor
/- Walks: (*pool.Arena).take. -/
namespace Go.Proofs.YtmopegpkoedgbaaGreatDoor
open Go.RowKit Go.Sort

def bestI : Option Nat → Int
  | none => -1
  | some b => (b : Nat)
/-- What take makes of a frame that was picked. -/
def takeR (a : Ar) : Bool × Option Nat → Ar × Nat × Int
  | (true, o) => ({ a with peak := max a.peak ((busyA a : Nat) + 1) }, o.getD 0, 0)
  | (false, none) => (a, 0, 9)
  | (false, some b) =>
    if (getF a b).dirty then
      (if (writeA a b).2 ≠ 0 then ((writeA a b).1, 0, (writeA a b).2) else (setF (writeA a b).1 b zeroF, b, 0))
    else (setF a b zeroF, b, 0)
theorem pick_free {fs : List Frm} {k : Nat} {best : Option Nat} {f : Frm} {R : Bool × Option Nat} (h : R = pickF fs k best (fs.drop k)) (hf : fs[k]? = some f) (e : freeF f = true) : R = (true, some k) := by
  obtain ⟨hk, e1⟩ := List.getElem?_eq_some_iff.1 hf
  rw [List.drop_eq_getElem_cons hk, e1, pickF, if_pos e] at h
  exact h
theorem pick_busy {fs : List Frm} {k : Nat} {best : Option Nat} {f : Frm} {R : Bool × Option Nat} (h : R = pickF fs k best (fs.drop k)) (hf : fs[k]? = some f) (e : freeF f = false) (g : idleF f = false) : R = pickF fs (k + 1) best (fs.drop (k + 1)) := by
  obtain ⟨hk, e1⟩ := List.getElem?_eq_some_iff.1 hf
  rw [List.drop_eq_getElem_cons hk, e1, pickF, if_neg (by rw [e]; simp), if_pos (by rw [g]; rfl)] at h
  exact h
theorem pick_idle {fs : List Frm} {k : Nat} {best : Option Nat} {f : Frm} {R : Bool × Option Nat} (h : R = pickF fs k best (fs.drop k)) (hf : fs[k]? = some f) (e : freeF f = false) (g : idleF f = true) : R = pickF fs (k + 1) (some (elderF fs k f best)) (fs.drop (k + 1)) := by
  obtain ⟨hk, e1⟩ := List.getElem?_eq_some_iff.1 hf
  rw [List.drop_eq_getElem_cons hk, e1, pickF, if_neg (by rw [e]; simp), if_neg (by rw [g]; simp)] at h
  exact h
theorem pick_end {fs : List Frm} {best : Option Nat} {R : Bool × Option Nat} (h : R = pickF fs fs.length best (fs.drop fs.length)) : R = (false, best) := by
  rw [List.drop_length, pickF] at h; exact h
set_option maxRecDepth 100000 in
set_option maxHeartbeats 8000000 in
theorem take_any (B : Fld) (p : Nat) (a : Ar) (w : World) (ha : ArAt w B p a) (hv : InvA a) :
    Calls Tryz.prog 181 #[.pointer (some ⟨p, 0, none⟩)] w fun e w' => e = .returned (.tuple #[.int .i64 ((takeA a).2.1 : Nat), .int .i64 (takeA a).2.2]) ∧ ArAt w' B p (takeA a).1 ∧ AFr ATy B w w' := by
  have HA := hide ha
  obtain ⟨q, fb, hk, hf, hd, hp, hfb, hn1, hn2, hpo⟩ := ha
  obtain ⟨c0, c1, c2, c3, c4, c5⟩ := six_cells hk
  have hbz := fun (W : World) (h : Below w.heap.size w W) => busy_any B p a W (HA.out.keep h)
  have hfr := fun (f : Frm) W => free_any f W
  have hid := fun (f : Frm) W => idle_any f W
  have hpl := hk.lt
  have HBz := hide hbz
  have HFr := hide hfr
  have HId := hide hid
  have HK := hide hk
  have HF := hide hf
  have HD := hide hd
  have HPo := hide hpo
  have HV := hide hv
  obtain ⟨R, hR⟩ : ∃ R, R = pickF a.frames 0 none a.frames := ⟨_, rfl⟩
  have htk : takeA a = takeR a R := by rw [hR]; rfl
  have HTk := hide htk
  have hb9 : (busyA a : Nat) ≤ 256 := by
    have := List.length_filter_le (fun f => !freeF f) a.frames
    unfold busyA; omega
  clear hk hf hd hpo hv hbz hfr hid htk
  go_enter Tryz.func181, Tryz.ntmps181
  go_wp2_with fail
  go_loopw [4, 13] (fun s4 i wr => ∃ (k : Nat) (best : Option Nat), i = .int .i64 k ∧ k ≤ a.frames.length ∧ s4 = .int .i64 (bestI best) ∧ (∀ b, best = some b → b < a.frames.length) ∧ Hid (R = pickF a.frames k best (a.frames.drop k)) ∧ Hid (Below w.heap.size w wr)) (fun _ i _ => a.frames.length - (intOf i).toNat)
  case atStart => exact ⟨0, none, rfl, by omega, rfl, (fun b h => by cases h), hide hR, hide (Below.refl _ _)⟩
  case round =>
    obtain ⟨k, best, rfl, hk, rfl, hbl, hinv, hbe⟩ := hrel
    have hkr := HK.out.keep hbe.out
    obtain ⟨d0, d1, d2, d3, d4, d5⟩ := six_cells hkr
    have hplr := hkr.lt
    by_cases hlt : k < a.frames.length
    · obtain ⟨f, hx⟩ : ∃ x, a.frames[k]? = some x := ⟨a.frames[k], List.getElem?_eq_getElem hlt⟩
      obtain ⟨g0, g1, g2, g3, g4, g5, g6⟩ := frm_cells (HF.out.keep hbe.out) hx
      have hfx := fun W => HFr.out f W
      have hix := fun W => HId.out f W
      have HX := hide hx
      obtain ⟨r, hr⟩ : ∃ r, r = freeF f := ⟨_, rfl⟩
      obtain ⟨u, hu⟩ : ∃ u, u = idleF f := ⟨_, rfl⟩
      have HR := hide hr
      have HU := hide hu
      rw [← hr] at hfx
      rw [← hu] at hix
      unfold frmA at hfx hix
      have HFX := hide hfx
      have HIX := hide hix
      have hxk : Bk (wr.alloc (.cells #[.string f.nm, .int .i64 f.sec, .string f.dt, .int .i64 f.pins, .bool f.dirty, .int .u64 f.tick, .bool f.leased] 233)) wr.heap.size 233 #[.string f.nm, .int .i64 f.sec, .string f.dt, .int .i64 f.pins, .bool f.dirty, .int .u64 f.tick, .bool f.leased] := Bk.new _ _ _
      have HXk := hide hxk
      clear hfx hix hx hr hu hkr hxk
      cases r with
      | true =>
        go_upto_region 6 with (go_at_call 206; refine (HFX.out _).mono ?_; rintro e w2 ⟨rfl, hb2⟩; have hk2 := HK.out.keep (btrans hbe.out (btrans (ba1 _ _) hb2)); obtain ⟨y0, y1, y2, y3, y4, y5⟩ := six_cells hk2; have y6 := hk2.free 5; have hpl2 := hk2.lt; have HK2 := hide hk2; have HB2 := hide (btrans hbe.out (btrans (ba1 _ _) hb2)); clear hb2 hk2)
        have hw1 : IntKind.i64.wrap ((busyA a : Int) + 1) = (busyA a : Int) + 1 := IntWalk.i64_in _ ⟨by omega, by omega⟩
        go_region_law (go_simp; go_at_call 207; refine Calls.mono (HBz.out _ HB2.out.drew) ?_; rintro e w4 ⟨rfl, hb4⟩; have hk4 := (show Bk w2.drew p _ _ from HK2.out).keep hb4; obtain ⟨v0, v1, v2, v3, v4, v5⟩ := six_cells hk4; have v6 := hk4.free 5; have HK4 := hide hk4; have HB4 := hide (btrans HB2.out.drew hb4); clear hb4 hk4)
        all_goals go_wp2_with fail
        all_goals
          refine bodyPost_ret (v := .tuple #[.int .i64 k, .int .i64 0]) (by simp [results, Tryz.results181, go_sem, bestI]) rfl ?_
          rw [HTk.out, pick_free hinv.out HX.out HR.out.symm]
          have hk5 := HK4.out.set_ 5 (.int .i64 (max a.peak ((busyA a : Int) + 1)))
          have hm : max a.peak ((busyA a : Int) + 1) = if a.peak < (busyA a : Int) + 1 then (busyA a : Int) + 1 else a.peak := by omega
          refine ⟨rfl, ?_, ?_⟩
          · have hval : ∀ z : Int, z = max a.peak ((busyA a : Int) + 1) → ArAt (w4.setCell ⟨p, 5, none⟩ (.int .i64 z)) B p (takeR a (true, some k)).1 := fun z hz => by
              subst hz
              exact ⟨q, fb, hk5, (HF.out.keep HB4.out).far (p := ⟨p, 5, none⟩) (fun e => HF.out.ne_ HK.out (by decide) e) _, (HD.out.keep HB4.out).far HK4.out (by decide) (by decide) (by decide) _ _, hp, hfb, hn1, hn2, HPo.out⟩
            exact hval _ (by omega)
          · exact (AFr.below HB4.out).set_ HK4.out hp aty_arena _ _
      | false =>
        cases u with
        | false =>
          go_wp2_with (first
            | (go_at_call 206; refine (HFX.out _).mono ?_; rintro e w2 ⟨rfl, hb2⟩; have hx2 := HXk.out.keep hb2; obtain ⟨z0, z1, z2, z3, z4, z5, z6⟩ := seven_cells hx2; have HX2 := hide hx2; have HB2 := hide (btrans (ba1 _ _) hb2); clear hb2 hx2)
            | (go_at_call 205; refine (HIX.out _).mono ?_; rintro e w3 ⟨rfl, hb3⟩; have HB3 := hide hb3; clear hb3))
          exact ⟨⟨k + 1, best, by simp, by omega, rfl, hbl, hide (pick_busy hinv.out HX.out HR.out.symm HU.out.symm), hide (btrans hbe.out (btrans HB2.out HB3.out))⟩, by simp [intOf]; omega⟩
        | true =>
          go_upto_region 9 with (first
            | (go_at_call 206; refine (HFX.out _).mono ?_; rintro e w2 ⟨rfl, hb2⟩; have hx2 := HXk.out.keep hb2; obtain ⟨z0, z1, z2, z3, z4, z5, z6⟩ := seven_cells hx2; have HX2 := hide hx2; have HB2 := hide (btrans (ba1 _ _) hb2); clear hb2 hx2)
            | (go_at_call 205; refine (HIX.out _).mono ?_; rintro e w3 ⟨rfl, hb3⟩; have hx3 := HX2.out.keep hb3; have z5 := hx3.cell 5; have HX3 := hide hx3; have HB3 := hide (btrans hbe.out (btrans HB2.out hb3)); clear hb3 hx3))
          cases best with
          | none =>
            have hmx : Tryz.prog.follows .mixedOrders = true := by kernel_rfl
            have hbi : bestI none = -1 := rfl
            have k5 := cell_regrown z5
            clear z5
            with_reducible refine wp_region_quiet_below hmx (by kernel_rfl) ?_
            repeat (with_reducible refine wpQuiet_step (fun K hK => ?_); go_simp; with_reducible refine hK _ ?_; clear hK K)
            with_reducible refine wpQuiet_nil ?_
            intro _ hw'
            obtain ⟨⟨dq, osq⟩, hw''⟩ := hw'
            subst hw''
            dsimp only
            have HB4 : Hid (Below w3.heap.size w3 (grow (redrawn w3 dq) osq)) := hide (below_regrown w3 dq osq)
            obtain ⟨w5, hw5⟩ : ∃ W, W = grow (redrawn w3 dq) osq := ⟨_, rfl⟩
            rw [← hw5] at HB4 ⊢
            clear hw5
            go_wp2_with fail
            exact ⟨⟨k + 1, some k, by simp, by omega, rfl, (fun b h => by cases h; exact hlt), hide (pick_idle hinv.out HX.out HR.out.symm HU.out.symm), hide (btrans HB3.out HB4.out)⟩, by simp [intOf]; omega⟩
          | some b =>
            have hmx : Tryz.prog.follows .mixedOrders = true := by kernel_rfl
            have hbi : bestI (some b) = (b : Int) := rfl
            have hbl2 := hbl b rfl
            obtain ⟨h, hh⟩ : ∃ x, a.frames[b]? = some x := ⟨a.frames[b], List.getElem?_eq_getElem hbl2⟩
            have hth := (frm_cells (HF.out.keep HB3.out) hh).2.2.2.2.2.1
            obtain ⟨p0, p1, _⟩ := six_cells (HK.out.keep HB3.out)
            have k5 := cell_regrown z5
            have k6 := cell_regrown hth
            have k7 := cell_regrown p1
            have hel : elderF a.frames k f (some b) = if f.tick < h.tick then k else b := by
              show (if f.tick < (a.frames.getD b zeroF).tick then k else b) = _; rw [List.getD_eq_getElem?_getD, hh]; rfl
            have HEl := hide hel
            clear z5 hth p0 p1 hh hel
            by_cases htl : f.tick < h.tick
            · have htI : decide ((f.tick : Int) < (h.tick : Int)) = true := decide_eq_true (by omega)
              have HTL := hide htl
              with_reducible refine wp_region_quiet_below hmx (by kernel_rfl) ?_
              repeat (with_reducible refine wpQuiet_step (fun K hK => ?_); go_simp; with_reducible refine hK _ ?_; clear hK K)
              with_reducible refine wpQuiet_nil ?_
              intro _ hw'
              obtain ⟨⟨dq, osq⟩, hw''⟩ := hw'
              subst hw''
              dsimp only
              have HB4 : Hid (Below w3.heap.size w3 (grow (redrawn w3 dq) osq)) := hide (below_regrown w3 dq osq)
              obtain ⟨w5, hw5⟩ : ∃ W, W = grow (redrawn w3 dq) osq := ⟨_, rfl⟩
              rw [← hw5] at HB4 ⊢
              clear hw5
              go_wp2_with fail
              exact ⟨⟨k + 1, some k, by simp, by omega, rfl, (fun b h => by cases h; exact hlt), hide (by have := pick_idle hinv.out HX.out HR.out.symm HU.out.symm; rw [HEl.out, if_pos HTL.out] at this; exact this), hide (btrans HB3.out HB4.out)⟩, by simp [intOf]; omega⟩
            · have htI : decide ((f.tick : Int) < (h.tick : Int)) = false := decide_eq_false (by omega)
              have HTL := hide htl
              with_reducible refine wp_region_quiet_below hmx (by kernel_rfl) ?_
              repeat (with_reducible refine wpQuiet_step (fun K hK => ?_); go_simp; with_reducible refine hK _ ?_; clear hK K)
              with_reducible refine wpQuiet_nil ?_
              intro _ hw'
              obtain ⟨⟨dq, osq⟩, hw''⟩ := hw'
              subst hw''
              dsimp only
              have HB4 : Hid (Below w3.heap.size w3 (grow (redrawn w3 dq) osq)) := hide (below_regrown w3 dq osq)
              obtain ⟨w5, hw5⟩ : ∃ W, W = grow (redrawn w3 dq) osq := ⟨_, rfl⟩
              rw [← hw5] at HB4 ⊢
              clear hw5
              go_wp2_with fail
              exact ⟨⟨k + 1, some b, by simp, by omega, rfl, hbl, hide (by have := pick_idle hinv.out HX.out HR.out.symm HU.out.symm; rw [HEl.out, if_neg HTL.out] at this; exact this), hide (btrans HB3.out HB4.out)⟩, by simp [intOf]; omega⟩
    · obtain rfl : k = a.frames.length := by omega
      have hpe := pick_end hinv.out
      have htk := HTk.out
      rw [hpe] at htk
      cases best with
      | none =>
        have hbi : bestI none = -1 := rfl
        have HTk2 := hide htk
        clear htk hpe
        go_wp2_with fail
        refine bodyPost_ret (v := .tuple #[.int .i64 0, .int .i64 9]) (by simp [results, Tryz.results181, go_sem, bestI]) rfl ?_
        rw [HTk2.out]
        exact ⟨rfl, HA.out.keep hbe.out, AFr.below hbe.out⟩
      | some b =>
        have hbi : bestI (some b) = (b : Int) := rfl
        have hbl2 := hbl b rfl
        have hdd : takeR a (false, some b) = if (getF a b).dirty then (if (writeA a b).2 ≠ 0 then ((writeA a b).1, 0, (writeA a b).2) else (setF (writeA a b).1 b zeroF, b, 0)) else (setF a b zeroF, b, 0) := rfl
        rw [hdd] at htk
        obtain ⟨f, hfe⟩ : ∃ f, f = getF a b := ⟨_, rfl⟩
        have hfi := getF_at hbl2
        rw [← hfe] at hfi htk
        have hfb2 := HF.out.keep hbe.out
        obtain ⟨g0, g1, g2, g3, g4, g5, g6⟩ := frm_cells hfb2 hfi
        obtain ⟨z0, z1, z2, z3, z4, z5, z6⟩ := seven_free hfb2 b
        obtain ⟨u, hu⟩ : ∃ u, u = f.dirty := ⟨_, rfl⟩
        rw [← hu] at htk g4
        have HFB2 := hide hfb2
        have HKr := hide hkr
        have HTk2 := hide htk
        clear htk hpe hdd hfe hfi hfb2 hkr hu
        cases u with
        | false =>
          go_wp2_with fail
          refine bodyPost_ret (v := .tuple #[.int .i64 b, .int .i64 0]) (by simp [results, Tryz.results181, go_sem, bestI]) rfl ?_
          rw [HTk2.out]
          exact ⟨rfl, put7_ar HKr.out HFB2.out (HD.out.keep hbe.out) ⟨hp, hfb, hn1, hn2, HPo.out⟩ hbl2 zeroF (by decide), put7_afr (AFr.below hbe.out) HFB2.out hfb b zeroF⟩
        | true =>
          have hwa := awrite_any B p b a wr (HA.out.keep hbe.out) HV.out hbl2
          have hwl : (writeA a b).1.frames.length = a.frames.length := (writeA_kp a b).len
          obtain ⟨Q, hQ⟩ : ∃ Q, Q = writeA a b := ⟨_, rfl⟩
          rw [← hQ] at hwa HTk2 hwl
          obtain ⟨a2, r2⟩ := Q
          dsimp only at hwa HTk2 hwl
          have HWa := hide hwa
          have hbl3 : b < a2.frames.length := by omega
          clear hwa hQ
          by_cases h0 : r2 = 0
          · subst h0
            go_wp2_with (go_at_call 176; refine Calls.mono HWa.out ?_; rintro e w3 ⟨rfl, ha3, hf3⟩; obtain ⟨q3, fb3, hk3, hfr3, hd3, hr3⟩ := ha3; obtain ⟨y0, y1, y2, y3, y4, y5⟩ := six_cells hk3; obtain ⟨x0, x1, x2, x3, x4, x5, x6⟩ := frm_cells hfr3 (getF_at hbl3); obtain ⟨t0, t1, t2, t3, t4, t5, t6⟩ := seven_free hfr3 b; have HK3 := hide hk3; have HFR3 := hide hfr3; have HD3 := hide hd3; have HR3 := hide hr3; have HF3 := hide hf3; clear hk3 hfr3 hd3 hr3 hf3)
            refine bodyPost_ret (v := .tuple #[.int .i64 b, .int .i64 0]) (by simp [results, Tryz.results181, go_sem, bestI]) rfl ?_
            rw [HTk2.out]
            exact ⟨rfl, put7_ar HK3.out HFR3.out HD3.out HR3.out hbl3 zeroF (by decide), put7_afr ((AFr.below hbe.out).trans HF3.out) HFR3.out HR3.out.2.1 b zeroF⟩
          · have h0b : (r2 != 0) = true := by simp [h0]
            go_wp2_with (go_at_call 176; refine Calls.mono HWa.out ?_; rintro e w3 ⟨rfl, ha3, hf3⟩; have HA3 := hide ha3; have HF3 := hide hf3; clear ha3 hf3)
            refine bodyPost_ret (v := .tuple #[.int .i64 0, .int .i64 r2]) (by simp [results, Tryz.results181, go_sem, bestI]) rfl ?_
            rw [HTk2.out, if_pos trivial, if_pos h0]
            exact ⟨rfl, HA3.out, (AFr.below hbe.out).trans HF3.out⟩
end Go.Proofs.YtmopegpkoedgbaaGreatDoor
/- Walks: (*pool.Arena).Pin's closure; slices.IndexFunc at frames. -/
namespace Go.Proofs.YtmopegpkoedgbaaGreatDoor
open Go.RowKit Go.Sort

def hitF (name : ByteArray) (sec : Int) (f : Frm) : Bool := holdsF f && decide (f.sec = sec) && decide (f.nm = name)
set_option maxRecDepth 100000 in
set_option maxHeartbeats 4000000 in
theorem pin1_any (bs bn : Nat) (name : ByteArray) (sec : Int) (f : Frm) (w : World) (hs : w.cell? ⟨bs, 0, none⟩ = some (.int .i64 sec)) (hn : w.cell? ⟨bn, 0, none⟩ = some (.string name)) :
    Calls Tryz.prog 204 #[frmA f, .pointer (some ⟨bs, 0, none⟩), .pointer (some ⟨bn, 0, none⟩)] w fun e w' => e = .returned (.bool (hitF name sec f)) ∧ Below w.heap.size w w' := by
  have hh := fun W => holds_any f W
  have HH := hide hh
  have hi : hitF name sec f = (holdsF f && decide (f.sec = sec) && decide (f.nm = name)) := rfl
  rw [hi]
  obtain ⟨u, hu⟩ : ∃ u, u = holdsF f := ⟨_, rfl⟩
  rw [← hu] at HH ⊢
  obtain ⟨nm, fs, dt, pins, dirty, tick, leased⟩ := f
  have hls := World.block_lt_of_cell? w _ hs
  have hln := World.block_lt_of_cell? w _ hn
  dsimp only at hls hln
  have HK := hide (Bk.new w 233 #[.string nm, .int .i64 fs, .string dt, .int .i64 pins, .bool dirty, .int .u64 tick, .bool leased])
  have HS := hide hs
  have HN := hide hn
  unfold frmA at *
  dsimp only at HH ⊢
  clear hh hu hi hs hn
  cases u with
  | false =>
    go_enter Tryz.func204, Tryz.ntmps204
    go_wp2_with (go_at_call 177; refine Calls.mono (HH.out _) ?_; rintro e w1 ⟨rfl, hb1⟩; have HB1 := hide hb1; clear hb1)
    go_ret
    exact ⟨by simp, btrans (ba1 _ _) HB1.out⟩
  | true =>
    by_cases h1 : fs = sec
    · subst h1
      by_cases h2 : nm = name
      · subst h2
        have e3 : (nm.toList == nm.toList) = true := by simp
        go_enter Tryz.func204, Tryz.ntmps204
        go_wp2_with (go_at_call 177; refine Calls.mono (HH.out _) ?_; rintro e w1 ⟨rfl, hb1⟩; obtain ⟨c0, c1, c2, c3, c4, c5, c6⟩ := seven_cells (HK.out.keep hb1); have n0 := ((btrans (ba1 _ _) hb1).cell (p := ⟨bn, 0, none⟩) hln).trans HN.out; have s0 := ((btrans (ba1 _ _) hb1).cell (p := ⟨bs, 0, none⟩) hls).trans HS.out; have HB1 := hide hb1; clear hb1)
        go_ret
        exact ⟨by simp, btrans (ba1 _ _) HB1.out⟩
      · have e3 : ¬ nm.toList = name.toList := fun h => h2 (toList_inj' h)
        have e4 : (nm.toList == name.toList) = false := by simp [e3]
        have H2 := hide h2
        clear h2
        go_enter Tryz.func204, Tryz.ntmps204
        go_wp2_with (go_at_call 177; refine Calls.mono (HH.out _) ?_; rintro e w1 ⟨rfl, hb1⟩; obtain ⟨c0, c1, c2, c3, c4, c5, c6⟩ := seven_cells (HK.out.keep hb1); have n0 := ((btrans (ba1 _ _) hb1).cell (p := ⟨bn, 0, none⟩) hln).trans HN.out; have s0 := ((btrans (ba1 _ _) hb1).cell (p := ⟨bs, 0, none⟩) hls).trans HS.out; have HB1 := hide hb1; clear hb1)
        go_ret
        exact ⟨by simp [H2.out], btrans (ba1 _ _) HB1.out⟩
    · have e5 : (fs == sec) = false := by simp [h1]
      go_enter Tryz.func204, Tryz.ntmps204
      go_wp2_with (go_at_call 177; refine Calls.mono (HH.out _) ?_; rintro e w1 ⟨rfl, hb1⟩; obtain ⟨c0, c1, c2, c3, c4, c5, c6⟩ := seven_cells (HK.out.keep hb1); have n0 := ((btrans (ba1 _ _) hb1).cell (p := ⟨bn, 0, none⟩) hln).trans HN.out; have s0 := ((btrans (ba1 _ _) hb1).cell (p := ⟨bs, 0, none⟩) hls).trans HS.out; have HB1 := hide hb1; clear hb1)
      go_ret
      exact ⟨by simp [h1], btrans (ba1 _ _) HB1.out⟩
set_option maxRecDepth 100000 in
set_option maxHeartbeats 4000000 in
theorem index_frame (fb c bs bn : Nat) (name : ByteArray) (sec : Int) (fs : List Frm) (w : World) (hf : Bk w fb 233 (flatF fs).toArray) (hs : w.cell? ⟨bs, 0, none⟩ = some (.int .i64 sec)) (hn : w.cell? ⟨bn, 0, none⟩ = some (.string name)) (hl : fs.length ≤ 1000000) :
    Calls Tryz.prog 203 #[.slice (some ⟨fb, 0, none⟩) fs.length c, .func (.func 204) #[] #[.pointer (some ⟨bs, 0, none⟩), .pointer (some ⟨bn, 0, none⟩)]] w fun e w' => e = .returned (.int .i64 (idxI (hitF name sec) fs)) ∧ Below w.heap.size w w' := by
  have hls := World.block_lt_of_cell? w _ hs
  have hln := World.block_lt_of_cell? w _ hn
  dsimp only at hls hln
  have h1 := fun (f : Frm) (W : World) (h : Below w.heap.size w W) => pin1_any bs bn name sec f W ((h.cell (p := ⟨bs, 0, none⟩) hls).trans hs) ((h.cell (p := ⟨bn, 0, none⟩) hln).trans hn)
  have H1 := hide h1
  have HF := hide hf
  clear h1 hf hs hn
  go_enter Tryz.func203, Tryz.ntmps203
  go_wp2_with fail
  go_loopw [8] (fun i wr => ∃ k : Nat, i = .int .i64 k ∧ k ≤ fs.length ∧ Hid (Below w.heap.size w wr) ∧ Hid (∀ j y, j < k → fs[j]? = some y → hitF name sec y = false)) (fun i _ => fs.length - (intOf i).toNat)
  case atStart => exact ⟨0, rfl, by omega, hide (Below.refl _ _), hide (fun j y hj => by omega)⟩
  case round =>
    obtain ⟨k, rfl, hk, hbe, hinv⟩ := hrel
    by_cases hlt : k < fs.length
    · obtain ⟨f, hx⟩ : ∃ x, fs[k]? = some x := ⟨fs[k], List.getElem?_eq_getElem hlt⟩
      obtain ⟨g0, g1, g2, g3, g4, g5, g6⟩ := frm_cells (HF.out.keep hbe.out) hx
      have h1f := H1.out f wr hbe.out
      obtain ⟨t, ht⟩ : ∃ t, t = hitF name sec f := ⟨_, rfl⟩
      rw [← ht] at h1f
      unfold frmA at h1f
      have H1f := hide h1f
      have HTe := hide ht
      have HX := hide hx
      clear h1f ht hx
      cases t with
      | true =>
        go_wp2_with (go_at_call 204; refine Calls.mono (H1f.out) ?_; rintro e w1 ⟨rfl, hb1⟩; have HB1 := hide hb1; clear hb1)
        go_ret
        exact ⟨by rw [idxI_at hinv.out HX.out HTe.out.symm]; rfl, btrans hbe.out HB1.out⟩
      | false =>
        go_wp2_with (go_at_call 204; refine Calls.mono (H1f.out) ?_; rintro e w1 ⟨rfl, hb1⟩; have HB1 := hide hb1; clear hb1)
        exact ⟨⟨k + 1, by simp, by omega, hide (btrans hbe.out HB1.out), hide (findIdx_step hinv.out HX.out HTe.out.symm)⟩, by simp [intOf]; omega⟩
    · obtain rfl : k = fs.length := by omega
      go_wp2_with fail
      go_ret
      exact ⟨by rw [idxI_none hinv.out]; rfl, hbe.out⟩
end Go.Proofs.YtmopegpkoedgbaaGreatDoor
/- Walk: (*pool.Arena).Pin. -/
namespace Go.Proofs.YtmopegpkoedgbaaGreatDoor
open Go.RowKit Go.Sort

/-- A frame that is pinned once more, in memory. -/
def pinW (w : World) (p fb i t : Nat) (n : Int) : World := ((w.setCell ⟨p, 2, none⟩ (.int .u64 (t : Nat))).setCell ⟨fb, i * 7 + 5, none⟩ (.int .u64 (t : Nat))).setCell ⟨fb, i * 7 + 3, none⟩ (.int .i64 n)
theorem pinAt_mem {w : World} {B : Fld} {p q fb i : Nat} {a : Ar} {f : Frm} (hk : Bk w p 136 #[.pointer (some ⟨q, 0, none⟩), .slice (some ⟨fb, 0, none⟩) a.frames.length a.frames.length, .int .u64 a.tick, .int .u64 a.reads, .int .u64 a.writes, .int .i64 a.peak]) (hf : Bk w fb 233 (flatF a.frames).toArray) (hd : DvAt w B q a.dev) (hr : B.ok p ∧ B.ok fb ∧ 1 ≤ a.frames.length ∧ a.frames.length ≤ 256 ∧ PinsOK a) (hi : a.frames[i]? = some f) (h : ¬ f.pins = 256) :
    ArAt (pinW w p fb i (inc64 a.tick) (f.pins + 1)) B p (setF { a with tick := inc64 a.tick } i { f with tick := inc64 a.tick, pins := f.pins + 1 }) ∧ AFr ATy B w (pinW w p fb i (inc64 a.tick) (f.pins + 1)) := by
  obtain ⟨r1, r2, r3, r4, r5⟩ := hr
  have hpf : p ≠ fb := fun e => hk.ne_ hf (by decide) e
  have hpn := r5.at_ hi
  have k1 := hk.set_ 2 (.int .u64 (inc64 a.tick : Nat))
  have f1 := hf.far (p := ⟨p, 2, none⟩) (fun e => hpf e.symm) (.int .u64 (inc64 a.tick : Nat))
  have d1 := hd.far hk (by decide) (by decide) (by decide) 2 (.int .u64 (inc64 a.tick : Nat))
  have k2 := k1.far (p := ⟨fb, i * 7 + 5, none⟩) hpf (.int .u64 (inc64 a.tick : Nat))
  have f2 := f1.putF (j := 5) (u := .int .u64 (inc64 a.tick : Nat)) (f' := { f with tick := inc64 a.tick }) hi (by omega) rfl
  have d2 := d1.far f1 (by decide) (by decide) (by decide) (i * 7 + 5) (.int .u64 (inc64 a.tick : Nat))
  have k3 := k2.far (p := ⟨fb, i * 7 + 3, none⟩) hpf (.int .i64 (f.pins + 1))
  have f3 := f2.putF (j := 3) (u := .int .i64 (f.pins + 1)) (f' := { f with tick := inc64 a.tick, pins := f.pins + 1 }) (set_get hi) (by omega) rfl
  rw [List.set_set] at f3
  have d3 := d2.far f2 (by decide) (by decide) (by decide) (i * 7 + 3) (.int .i64 (f.pins + 1))
  refine ⟨⟨q, fb, ?_, f3, d3, r1, r2, by simp [setF]; omega, by simp [setF]; omega, PinsOK.set_ (a := { a with tick := inc64 a.tick }) r5 i (show 0 ≤ f.pins + 1 ∧ f.pins + 1 ≤ 256 by omega)⟩, ?_⟩
  · simp only [setF, List.length_set]
    exact k3
  · exact (((AFr.refl _ _ _).set_ hk r1 aty_arena _ _).set_ f1 r2 aty_frame _ _).set_ f2 r2 aty_frame _ _
theorem whereF_idx (fs : List Frm) (name : ByteArray) (sec : Int) : idxI (hitF name sec) fs = match whereF fs name sec with | some i => (i : Nat) | none => -1 := rfl
theorem pinAt_eq {a : Ar} {i : Nat} {f : Frm} (h : getF a i = f) : pinAt a i = if f.pins = 256 then (a, 0, 11) else (setF { a with tick := inc64 a.tick } i { f with tick := inc64 a.tick, pins := f.pins + 1 }, i, 0) := by unfold pinAt inc64; rw [h]
set_option maxRecDepth 100000 in
set_option maxHeartbeats 8000000 in
theorem pin_any (B : Fld) (p : Nat) (name : ByteArray) (sec : Int) (a : Ar) (w : World) (ha : ArAt w B p a) (hv : InvA a) :
    Calls Tryz.prog 174 #[.pointer (some ⟨p, 0, none⟩), .string name, .int .i64 sec] w fun e w' => e = .returned (.tuple #[.int .i64 ((pinA a name sec).2.1 : Nat), .int .i64 (pinA a name sec).2.2]) ∧ ArAt w' B p (pinA a name sec).1 ∧ AFr ATy B w w' := by
  have HA := hide ha
  have HV := hide hv
  obtain ⟨q, fb, hk, hf, hd, hr⟩ := ha
  obtain ⟨w0, hw0⟩ : ∃ w0, w0 = (w.alloc (.cells #[.string name] 9)).alloc (.cells #[.int .i64 sec] 3) := ⟨_, rfl⟩
  have hb0 : Below w.heap.size w w0 := by rw [hw0]; exact ba2 _ _ _
  have hkn : Bk w0 w.heap.size 9 #[.string name] := by rw [hw0]; exact (Bk.new _ _ _).alloc _
  have hks : Bk w0 (w.heap.size + 1) 3 #[.int .i64 sec] := by rw [hw0]; exact Bk.new1 _ _ _ _
  have hk0 := hk.keep hb0
  have hif := index_frame fb a.frames.length (w.heap.size + 1) w.heap.size name sec a.frames w0 (hf.keep hb0) ((hks.cell 0).trans rfl) ((hkn.cell 0).trans rfl) (by have := hr.2.2.2.1; omega)
  rw [whereF_idx] at hif
  obtain ⟨c0, c1, c2, c3, c4, c5⟩ := six_cells hk
  have hpl := hk.lt
  have HK0 := hide hk0
  have HF := hide hf
  have HD := hide hd
  have HR := hide hr
  have HB0 := hide hb0
  have HKn := hide hkn
  have HKs := hide hks
  obtain ⟨o, ho⟩ : ∃ o, o = whereF a.frames name sec := ⟨_, rfl⟩
  rw [← ho] at hif
  have hinc := inc_wrap a.tick
  cases o with
  | some i =>
    dsimp only at hif
    obtain ⟨f, hfi, _⟩ := whereF_some ho.symm
    have hfg := getF_of hfi
    have hpe : pinA a name sec = pinAt a i := by unfold pinA; rw [← ho]
    rw [hpe, pinAt_eq hfg]
    have HI := hide hif
    have hil : i < a.frames.length := (List.getElem?_eq_some_iff.1 hfi).1
    have HFi := hide hfi
    have hlen := hr.2.2.2.1
    have hpi := hr.2.2.2.2.at_ hfi
    clear hif hk hf hd hr hb0 hkn hks hk0 ho hfg hpe hfi hv
    by_cases h0 : f.pins = 256
    · rw [if_pos h0]
      have h0b : (f.pins == 256) = true := by simp [h0]
      go_enter Tryz.func174, Tryz.ntmps174
      go_wp2_with (go_at_call 203; rw [← hw0]; refine Calls.mono HI.out ?_; rintro e w1 ⟨rfl, hb1⟩; obtain ⟨d0, d1, d2, d3, d4, d5⟩ := six_cells (HK0.out.keep hb1); obtain ⟨g0, g1, g2, g3, g4, g5, g6⟩ := frm_cells ((HF.out.keep HB0.out).keep hb1) HFi.out; have HB1 := hide (btrans HB0.out hb1); clear hb1 hw0)
      refine bodyPost_ret (v := .tuple #[.int .i64 0, .int .i64 11]) (by simp [results, Tryz.results174, go_sem]) rfl ?_
      exact ⟨rfl, HA.out.keep HB1.out, AFr.below HB1.out⟩
    · rw [if_neg h0]
      have h0b : (f.pins == 256) = false := by simp [h0]
      have hwp : IntKind.i64.wrap (f.pins + 1) = f.pins + 1 := IntWalk.i64_in _ ⟨by omega, by omega⟩
      have H0 := hide h0
      clear h0
      go_enter Tryz.func174, Tryz.ntmps174
      go_wp2_with (go_at_call 203; rw [← hw0]; refine Calls.mono HI.out ?_; rintro e w1 ⟨rfl, hb1⟩; have hk1 := HK0.out.keep hb1; have hf1 := (HF.out.keep HB0.out).keep hb1; have z2 := hk1.free 2; have z3 := hf1.free (i * 7 + 3); have z5 := hf1.free (i * 7 + 5); have hpf : ¬ p = fb := (fun e => hk1.ne_ hf1 (by decide) e); have hpf2 : ¬ fb = p := (fun e => hpf e.symm); obtain ⟨d0, d1, d2, d3, d4, d5⟩ := six_cells hk1; obtain ⟨g0, g1, g2, g3, g4, g5, g6⟩ := frm_cells hf1 HFi.out; have HK1 := hide hk1; have HF1 := hide hf1; have HB1 := hide (btrans HB0.out hb1); clear hb1 hw0 hk1 hf1)
      refine bodyPost_ret (v := .tuple #[.int .i64 i, .int .i64 0]) (by simp [results, Tryz.results174, go_sem]) rfl ?_
      obtain ⟨r1, r2⟩ := pinAt_mem HK1.out HF1.out (HD.out.keep HB1.out) HR.out HFi.out H0.out
      exact ⟨rfl, r1, (AFr.below HB1.out).trans r2⟩
  | none =>
    dsimp only at hif
    have HI := hide hif
    have hrd := fun (W : World) (h : Below w.heap.size w W) => read_disk B q a.dev name sec W (hd.keep h) hv.dev
    have htk := fun (W : World) (h : Below w.heap.size w W) => take_any B p a W (HA.out.keep h) hv
    have hsp := takeA_spec hv
    have hpe : pinA a name sec = if (readD a.dev name sec).2 ≠ 0 then (a, 0, (readD a.dev name sec).2)
      else if (takeA a).2.2 ≠ 0 then ((takeA a).1, 0, (takeA a).2.2)
      else pinAt (setF { (takeA a).1 with reads := inc64 (takeA a).1.reads } (takeA a).2.1 ⟨name, sec, (readD a.dev name sec).1, 0, false, 0, false⟩) (takeA a).2.1 := by unfold pinA; rw [← ho]
    rw [hpe]
    obtain ⟨R, hR⟩ : ∃ R, R = readD a.dev name sec := ⟨_, rfl⟩
    obtain ⟨T, hT⟩ : ∃ T, T = takeA a := ⟨_, rfl⟩
    rw [← hR] at hrd ⊢
    rw [← hT] at htk hsp ⊢
    obtain ⟨s, r2⟩ := R
    obtain ⟨a2, ti, t2⟩ := T
    dsimp only at hrd htk hsp ⊢
    have HRd := hide hrd
    have HTk := hide htk
    have HSp := hide hsp
    clear hif hk hf hd hr hb0 hkn hks hk0 ho hpe hv hrd htk hsp hR hT
    by_cases e1 : r2 = 0
    · rw [if_neg (by simpa using e1)]
      subst e1
      by_cases e2 : t2 = 0
      · rw [if_neg (by simpa using e2)]
        subst e2
        obtain ⟨hv2, hl2, hsp2, _⟩ := HSp.out
        obtain ⟨hti, _⟩ := hsp2 rfl
        have hti2 : ti < a2.frames.length := by omega
        have hF : (⟨name, sec, s, 0, false, 0, false⟩ : Frm).pins = 0 := rfl
        obtain ⟨F, hFe⟩ : ∃ F : Frm, F = ⟨name, sec, s, 0, false, 0, false⟩ := ⟨_, rfl⟩
        have hpe2 := pinAt_eq (a := setF { a2 with reads := inc64 a2.reads } ti F) (i := ti) (f := F) (getF_of (set_get (l := a2.frames) (g := F) (List.getElem?_eq_getElem hti2)))
        rw [← hFe, hpe2, if_neg (by rw [hFe]; show ¬ (0 : Int) = 256; decide)]
        have hincr := inc_wrap a2.reads
        have hinct := inc_wrap a2.tick
        have hwp1 : IntKind.i64.wrap ((0 : Int) + 1) = (0 : Int) + 1 := by decide
        clear hsp2 hpe2 hv2 hinc
        go_enter Tryz.func174, Tryz.ntmps174
        go_upto_region 3 with (go_at_call 203; rw [← hw0]; refine Calls.mono HI.out ?_; rintro e w1 ⟨rfl, hb1⟩; obtain ⟨d0, d1, d2, d3, d4, d5⟩ := six_cells (HK0.out.keep hb1); have n0 := ((HKn.out.keep hb1).cell 0).trans rfl; have s0 := ((HKs.out.keep hb1).cell 0).trans rfl; have hkn1 := HKn.out.keep hb1; have HKn1 := hide hkn1; have HKs1 := hide (HKs.out.keep hb1); have HB1 := hide (btrans HB0.out hb1); clear hb1 hw0 hkn1)
        have hmx : Tryz.prog.follows .mixedOrders = true := by kernel_rfl
        have k0 := cell_regrown d0
        have k1 := cell_regrown n0
        have k2 := cell_regrown s0
        have cf0 := fun d os => Calls.regrown_of (w := w1) (d := d) (os := os) (HRd.out _ (btrans HB1.out (below_regrown w1 d os)))
        have CF0 := hide cf0
        clear cf0 d0 n0 s0
        with_reducible refine wp_region_quiet_below hmx (by kernel_rfl) ?_
        repeat (with_reducible refine wpQuiet_step (fun K hK => ?_); go_simp; first | (with_reducible refine hK _ ?_; clear hK K) | (with_reducible apply Exists.intro; refine ⟨fun _ => ?_, hK _ ?_⟩; (with_reducible exact CF0.out _ _); clear hK K))
        with_reducible refine wpQuiet_nil ?_
        intro _ hw'
        obtain ⟨⟨dq, osq⟩, hw''⟩ := hw'
        subst hw''
        dsimp only
        have HB2 : Hid (Below w.heap.size w (grow (redrawn w1 dq) osq)) := hide (btrans HB1.out (below_regrown w1 dq osq))
        obtain ⟨w2, hw5⟩ : ∃ W, W = grow (redrawn w1 dq) osq := ⟨_, rfl⟩
        have HB12 : Hid (Below w1.heap.size w1 (grow (redrawn w1 dq) osq)) := hide (below_regrown w1 dq osq)
        rw [← hw5] at HB2 HB12 ⊢
        clear hw5 k0 k1 k2
        go_upto_region 9 with ((go_at_call 181; refine Calls.mono (HTk.out _ HB2.out) ?_; rintro e w3 ⟨rfl, ha3, hf3⟩; have hb3n := HKn1.out.keep HB12.out; have hb3s := HKs1.out.keep HB12.out; have n3 := ((hb3n.afr hf3 (by unfold ATy; decide)).cell 0).trans rfl; have s3 := ((hb3s.afr hf3 (by unfold ATy; decide)).cell 0).trans rfl; obtain ⟨q3, fb3, hk3, hfr3, hd3, hr3⟩ := ha3; obtain ⟨y0, y1, y2, y3, y4, y5⟩ := six_cells hk3; obtain ⟨x0, x1, x2, x3, x4, x5, x6⟩ := frm_cells hfr3 (getF_at hti2); obtain ⟨t0, t1, t2, t3, t4, t5, t6⟩ := seven_free hfr3 ti; have HK3 := hide hk3; have HFR3 := hide hfr3; have HD3 := hide hd3; have HR3 := hide hr3; have HF3 := hide hf3; clear hk3 hfr3 hd3 hr3 hf3 hb3n hb3s))
        refine wp_region_still_tail 10 (by kernel_rfl) (by kernel_rfl) ?_
        simp only [List.take_succ_cons, List.take_zero, List.drop_succ_cons, List.drop_zero]
        change wpStill _ _ w3.drew _ _ _
        repeat still_step
        refine wpStill_nil ?_
        change wpList _ _ _ _ _ w3.drew
        have hqf : ¬ p = fb3 := fun e => HK3.out.ne_ HFR3.out (by decide) e
        have hqf2 : ¬ fb3 = p := fun e => hqf e.symm
        have hz3 := HK3.out.free 3
        go_upto_region 11 with (fail)
        obtain ⟨W5, hW5⟩ : ∃ W, W = ((put7 w3 fb3 ti ⟨name, sec, s, 0, false, 0, false⟩).setCell ⟨p, 3, none⟩ (.int .u64 (inc64 a2.reads : Nat))).drew := ⟨_, rfl⟩
        have hk4 := put7_far HK3.out (fun e => HK3.out.ne_ HFR3.out (by decide) e) ti ⟨name, sec, s, 0, false, 0, false⟩
        have hf4 := put7_bk HFR3.out (List.getElem?_eq_getElem hti2) ⟨name, sec, s, 0, false, 0, false⟩
        have hd4 := put7_dv HD3.out HFR3.out ti ⟨name, sec, s, 0, false, 0, false⟩
        have ha4 := put7_afr ((AFr.below HB2.out).trans HF3.out) HFR3.out HR3.out.2.1 ti ⟨name, sec, s, 0, false, 0, false⟩
        have hk5 : Bk W5 p 136 #[.pointer (some ⟨q3, 0, none⟩), .slice (some ⟨fb3, 0, none⟩) a2.frames.length a2.frames.length, .int .u64 a2.tick, .int .u64 (inc64 a2.reads : Nat), .int .u64 a2.writes, .int .i64 a2.peak] := by rw [hW5]; exact (hk4.set_ 3 _).drew
        have hf5 : Bk W5 fb3 233 (flatF (a2.frames.set ti F)).toArray := by rw [hW5, hFe]; exact (hf4.far (p := ⟨p, 3, none⟩) (fun e => HFR3.out.ne_ HK3.out (by decide) e) _).drew
        have hd5 : DvAt W5 B q3 a2.dev := by rw [hW5]; exact (hd4.far hk4 (by decide) (by decide) (by decide) 3 _).drew
        have ha5 : AFr ATy B w W5 := by rw [hW5]; exact (ha4.set_ hk4 HR3.out.1 aty_arena 3 _).drew
        have hr5 : B.ok p ∧ B.ok fb3 ∧ 1 ≤ (setF { a2 with reads := inc64 a2.reads } ti F).frames.length ∧ (setF { a2 with reads := inc64 a2.reads } ti F).frames.length ≤ 256 ∧ PinsOK (setF { a2 with reads := inc64 a2.reads } ti F) := by
          obtain ⟨r1, r2, r3, r4, r5⟩ := HR3.out
          exact ⟨r1, r2, by simp [setF]; omega, by simp [setF]; omega, PinsOK.set_ (a := { a2 with reads := inc64 a2.reads }) r5 ti (by rw [hFe]; exact ⟨Int.le_refl 0, by show (0 : Int) ≤ 256; decide⟩)⟩
        unfold put7 at hW5
        dsimp only at hW5
        rw [show ((0 : Nat) : Int) = 0 from rfl] at hW5
        rw [← hW5]
        have hset := set_get (l := a2.frames) (g := F) (List.getElem?_eq_getElem hti2)
        obtain ⟨u0, u1, u2, u3, u4, u5⟩ := six_cells hk5
        obtain ⟨v0, v1, v2, v3, v4, v5, v6⟩ := frm_cells hf5 hset
        have hFp : F.pins = 0 := by rw [hFe]
        rw [hFp] at v3
        have z2 := hk5.free 2
        have z3 := hf5.free (ti * 7 + 3)
        have z5 := hf5.free (ti * 7 + 5)
        have hpf : ¬ p = fb3 := fun e => hk5.ne_ hf5 (by decide) e
        have hpf2 : ¬ fb3 = p := fun e => hpf e.symm
        have HK5 := hide hk5
        have HF5 := hide hf5
        have HD5 := hide hd5
        have HA5 := hide ha5
        have HR5 := hide hr5
        have HSet := hide hset
        have HFp := hide hFp
        clear hk4 hf4 hd4 ha4 hk5 hf5 hd5 ha5 hr5 hW5 hset hFp hFe y0 y1 y2 y3 y4 y5 x0 x1 x2 x3 x4 x5 x6 t0 t1 t2 t3 t4 t5 t6
        go_wp2_with fail
        refine bodyPost_ret (v := .tuple #[.int .i64 ti, .int .i64 0]) (by simp [results, Tryz.results174, go_sem]) rfl ?_
        have hlen5 : (setF { a2 with reads := inc64 a2.reads } ti F).frames.length = a2.frames.length := by simp [setF]
        have hk6 := HK5.out
        rw [← hlen5] at hk6
        obtain ⟨r1, r2⟩ := pinAt_mem (a := setF { a2 with reads := inc64 a2.reads } ti F) hk6 HF5.out HD5.out HR5.out HSet.out (by rw [HFp.out]; decide)
        rw [HFp.out] at r1 r2
        refine ⟨rfl, ?_, HA5.out.trans r2⟩
        rw [HFp.out]
        exact r1
      · rw [if_pos e2]
        have e2b : (t2 != 0) = true := by simp [e2]
        go_enter Tryz.func174, Tryz.ntmps174
        go_upto_region 3 with (go_at_call 203; rw [← hw0]; refine Calls.mono HI.out ?_; rintro e w1 ⟨rfl, hb1⟩; obtain ⟨d0, d1, d2, d3, d4, d5⟩ := six_cells (HK0.out.keep hb1); have n0 := ((HKn.out.keep hb1).cell 0).trans rfl; have s0 := ((HKs.out.keep hb1).cell 0).trans rfl; have hkn1 := HKn.out.keep hb1; have HKn1 := hide hkn1; have HKs1 := hide (HKs.out.keep hb1); have HB1 := hide (btrans HB0.out hb1); clear hb1 hw0 hkn1)
        have hmx : Tryz.prog.follows .mixedOrders = true := by kernel_rfl
        have k0 := cell_regrown d0
        have k1 := cell_regrown n0
        have k2 := cell_regrown s0
        have cf0 := fun d os => Calls.regrown_of (w := w1) (d := d) (os := os) (HRd.out _ (btrans HB1.out (below_regrown w1 d os)))
        have CF0 := hide cf0
        clear cf0 d0 n0 s0
        with_reducible refine wp_region_quiet_below hmx (by kernel_rfl) ?_
        repeat (with_reducible refine wpQuiet_step (fun K hK => ?_); go_simp; first | (with_reducible refine hK _ ?_; clear hK K) | (with_reducible apply Exists.intro; refine ⟨fun _ => ?_, hK _ ?_⟩; (with_reducible exact CF0.out _ _); clear hK K))
        with_reducible refine wpQuiet_nil ?_
        intro _ hw'
        obtain ⟨⟨dq, osq⟩, hw''⟩ := hw'
        subst hw''
        dsimp only
        have HB2 : Hid (Below w.heap.size w (grow (redrawn w1 dq) osq)) := hide (btrans HB1.out (below_regrown w1 dq osq))
        obtain ⟨w2, hw5⟩ : ∃ W, W = grow (redrawn w1 dq) osq := ⟨_, rfl⟩
        have HB12 : Hid (Below w1.heap.size w1 (grow (redrawn w1 dq) osq)) := hide (below_regrown w1 dq osq)
        rw [← hw5] at HB2 HB12 ⊢
        clear hw5 k0 k1 k2
        go_wp2_with ((go_at_call 181; refine Calls.mono (HTk.out _ HB2.out) ?_; rintro e w3 ⟨rfl, ha3, hf3⟩; have HA3 := hide ha3; have HF3 := hide hf3; clear ha3 hf3))
        refine bodyPost_ret (v := .tuple #[.int .i64 0, .int .i64 t2]) (by simp [results, Tryz.results174, go_sem]) rfl ?_
        exact ⟨rfl, HA3.out, (AFr.below HB2.out).trans HF3.out⟩
    · rw [if_pos e1]
      have e1b : (r2 != 0) = true := by simp [e1]
      go_enter Tryz.func174, Tryz.ntmps174
      go_upto_region 3 with (go_at_call 203; rw [← hw0]; refine Calls.mono HI.out ?_; rintro e w1 ⟨rfl, hb1⟩; obtain ⟨d0, d1, d2, d3, d4, d5⟩ := six_cells (HK0.out.keep hb1); have n0 := ((HKn.out.keep hb1).cell 0).trans rfl; have s0 := ((HKs.out.keep hb1).cell 0).trans rfl; have hkn1 := HKn.out.keep hb1; have HKn1 := hide hkn1; have HKs1 := hide (HKs.out.keep hb1); have HB1 := hide (btrans HB0.out hb1); clear hb1 hw0 hkn1)
      have hmx : Tryz.prog.follows .mixedOrders = true := by kernel_rfl
      have k0 := cell_regrown d0
      have k1 := cell_regrown n0
      have k2 := cell_regrown s0
      have cf0 := fun d os => Calls.regrown_of (w := w1) (d := d) (os := os) (HRd.out _ (btrans HB1.out (below_regrown w1 d os)))
      have CF0 := hide cf0
      clear cf0 d0 n0 s0
      with_reducible refine wp_region_quiet_below hmx (by kernel_rfl) ?_
      repeat (with_reducible refine wpQuiet_step (fun K hK => ?_); go_simp; first | (with_reducible refine hK _ ?_; clear hK K) | (with_reducible apply Exists.intro; refine ⟨fun _ => ?_, hK _ ?_⟩; (with_reducible exact CF0.out _ _); clear hK K))
      with_reducible refine wpQuiet_nil ?_
      intro _ hw'
      obtain ⟨⟨dq, osq⟩, hw''⟩ := hw'
      subst hw''
      dsimp only
      have HB2 : Hid (Below w.heap.size w (grow (redrawn w1 dq) osq)) := hide (btrans HB1.out (below_regrown w1 dq osq))
      obtain ⟨w2, hw5⟩ : ∃ W, W = grow (redrawn w1 dq) osq := ⟨_, rfl⟩
      have HB12 : Hid (Below w1.heap.size w1 (grow (redrawn w1 dq) osq)) := hide (below_regrown w1 dq osq)
      rw [← hw5] at HB2 HB12 ⊢
      clear hw5 k0 k1 k2
      go_wp2_with fail
      refine bodyPost_ret (v := .tuple #[.int .i64 0, .int .i64 r2]) (by simp [results, Tryz.results174, go_sem]) rfl ?_
      exact ⟨rfl, HA.out.keep HB2.out, AFr.below HB2.out⟩
end Go.Proofs.YtmopegpkoedgbaaGreatDoor
/- Walks: (*pool.Arena).Fill, Flush, Drop. -/
namespace Go.Proofs.YtmopegpkoedgbaaGreatDoor
open Go.RowKit Go.Sort

set_option maxRecDepth 100000 in
set_option maxHeartbeats 4000000 in
theorem fill_any (B : Fld) (p i at_ : Nat) (data : ByteArray) (a : Ar) (w : World) (ha : ArAt w B p a) (hl : i < a.frames.length) (hs : (getF a i).dt.size ≤ 1000000) (hf : at_ + data.size ≤ (getF a i).dt.size) :
    Calls Tryz.prog 175 #[.pointer (some ⟨p, 0, none⟩), .int .i64 i, .int .i64 at_, .string data] w fun e w' => e = .returned (.tuple #[]) ∧ ArAt w' B p (fillA a i at_ data) ∧ AFr ATy B w w' := by
  obtain ⟨q, fb, hk, hfr, hd, hp, hfb, hn1, hn2, hpo⟩ := ha
  have hfi := getF_at hl
  obtain ⟨f, hfe⟩ : ∃ f, f = getF a i := ⟨_, rfl⟩
  have hfa : fillA a i at_ data = setF a i { f with dt := lay f.dt at_ data, dirty := true } := by unfold fillA; rw [← hfe]
  rw [← hfe] at hfi hs hf
  rw [hfa]
  have hlay : lay f.dt at_ data = f.dt.extract 0 at_ ++ data ++ f.dt.extract (at_ + data.size) f.dt.size := rfl
  obtain ⟨c0, c1, c2, c3, c4, c5⟩ := six_cells hk
  obtain ⟨g0, g1, g2, g3, g4, g5, g6⟩ := frm_cells hfr hfi
  have z2 := hfr.free (i * 7 + 2)
  have z4 := hfr.free (i * 7 + 4)
  obtain ⟨m, hm⟩ : ∃ m, m = at_ + data.size := ⟨_, rfl⟩
  have hw1 : IntKind.i64.wrap ((at_ : Int) + (data.size : Int)) = (m : Int) := by rw [IntWalk.i64_in _ ⟨by omega, by omega⟩]; omega
  have h1 : at_ ≤ f.dt.size := by omega
  have h1I : (at_ : Int) ≤ (f.dt.size : Int) := by omega
  have h2 : m ≤ f.dt.size := by omega
  have h2I : (m : Int) ≤ (f.dt.size : Int) := by omega
  obtain ⟨X, hX⟩ : ∃ X, f.dt.extract 0 at_ = X := ⟨_, rfl⟩
  obtain ⟨Y, hY⟩ : ∃ Y, f.dt.extract m f.dt.size = Y := ⟨_, rfl⟩
  have s1 : X.size = at_ := by rw [← hX, ByteArray.size_extract]; omega
  have s3 : Y.size = f.dt.size - m := by rw [← hY, ByteArray.size_extract]; omega
  have n1 : (9223372036854775807 < X.size + data.size) = False := eq_false (by omega)
  have n3 : X.size + data.size ≤ 9223372036854775807 := by omega
  have n2 : (9223372036854775807 < X.size + data.size + Y.size) = False := eq_false (by omega)
  have n4 : X.size + data.size + Y.size ≤ 9223372036854775807 := by omega
  rw [← hm, hX, hY] at hlay
  have HLay := hide hlay
  have HK := hide hk
  have HFr := hide hfr
  have HD := hide hd
  have HFi := hide hfi
  have HPo := hide hpo
  clear hk hfr hd hfi hfe hfa hlay hpo hm hf s1 s3
  go_enter Tryz.func175, Tryz.ntmps175
  go_upto_region 1 with (fail)
  go_region
  go_wp2_with fail
  go_end0
  have k1 := HK.out.far (p := ⟨fb, i * 7 + 2, none⟩) (fun e => HK.out.ne_ HFr.out (by decide) e) (.string (X ++ data ++ Y))
  have f1 := HFr.out.putF (j := 2) (u := .string (X ++ data ++ Y)) (f' := { f with dt := X ++ data ++ Y }) HFi.out (by omega) rfl
  have d1 := HD.out.far HFr.out (by decide) (by decide) (by decide) (i * 7 + 2) (.string (X ++ data ++ Y))
  have k2 := k1.far (p := ⟨fb, i * 7 + 4, none⟩) (fun e => HK.out.ne_ HFr.out (by decide) e) (.bool true)
  have f2 := f1.putF (j := 4) (u := .bool true) (f' := { f with dt := X ++ data ++ Y, dirty := true }) (set_get HFi.out) (by omega) rfl
  have d2 := d1.far f1 (by decide) (by decide) (by decide) (i * 7 + 4) (.bool true)
  rw [List.set_set] at f2
  rw [HLay.out]
  refine ⟨rfl, ⟨q, fb, ?_, f2, d2, hp, hfb, by simp [setF]; omega, by simp [setF]; omega, HPo.out.set_ i (show 0 ≤ f.pins ∧ f.pins ≤ 256 from HPo.out.at_ HFi.out)⟩, (((AFr.refl _ _ _).set_ HFr.out hfb aty_frame _ _).set_ f1 hfb aty_frame _ _).drew⟩
  simp only [setF, List.length_set]
  exact k2
theorem flushF_step {a : Ar} {n i : Nat} (h : (getF a i).dirty = false) : flushF (n + 1) i a = flushF n (i + 1) a := by
  rw [flushF, if_neg (by rw [h]; simp)]
theorem flushF_ok {a : Ar} {n i : Nat} (h : (getF a i).dirty = true) (h0 : (writeA a i).2 = 0) : flushF (n + 1) i a = flushF n (i + 1) (writeA a i).1 := by
  rw [flushF, if_pos h, if_neg (by rw [h0]; simp)]
theorem flushF_bad {a : Ar} {n i : Nat} (h : (getF a i).dirty = true) (h0 : (writeA a i).2 ≠ 0) : flushF (n + 1) i a = writeA a i := by
  rw [flushF, if_pos h, if_pos h0]
set_option maxRecDepth 100000 in
set_option maxHeartbeats 4000000 in
theorem flush_any (B : Fld) (p : Nat) (a : Ar) (w : World) (ha : ArAt w B p a) (hv : InvA a) :
    Calls Tryz.prog 134 #[.pointer (some ⟨p, 0, none⟩)] w fun e w' => e = .returned (.int .i64 (flushA a).2) ∧ ArAt w' B p (flushA a).1 ∧ AFr ATy B w w' := by
  have HA := hide ha
  have HV := hide hv
  obtain ⟨n, hn⟩ : ∃ n, n = a.frames.length := ⟨_, rfl⟩
  obtain ⟨R, hR⟩ : ∃ R, R = flushF a.frames.length 0 a := ⟨_, rfl⟩
  have hfl : flushA a = if R.2 ≠ 0 then R else ({ R.1 with dev := syncD R.1.dev }, 0) := by unfold flushA; rw [← hR]
  rw [← hn] at hR
  obtain ⟨F, hF⟩ : ∃ F, F = flushA a := ⟨_, rfl⟩
  rw [← hF] at hfl ⊢
  have HFl := hide hfl
  clear hF
  obtain ⟨q, fb, hk, hfr, hd, hr⟩ := ha
  obtain ⟨c0, c1, c2, c3, c4, c5⟩ := six_cells hk
  have hn2 := hr.2.2.2.1
  rw [← hn] at c1 hn2
  have HN := hide hn
  have HR := hide hR
  clear hk hfr hd hr hfl hR hv hn
  go_enter Tryz.func134, Tryz.ntmps134
  go_wp2_with fail
  go_loopw [10] (fun i wr => ∃ (k : Nat) (ak : Ar), i = .int .i64 k ∧ k ≤ n ∧ Hid (R = flushF (n - k) k ak) ∧ Hid (ArAt wr B p ak) ∧ Hid (InvA ak) ∧ Hid (ak.frames.length = n) ∧ Hid (AFr ATy B w wr)) (fun i _ => n - (intOf i).toNat)
  case atStart => exact ⟨0, a, rfl, by omega, HR, HA, HV, hide HN.out.symm, hide (AFr.refl _ _ _)⟩
  case round =>
    clear c0 c1 c2 c3 c4 c5
    obtain ⟨k, ak, rfl, hk, hinv, har, hav, hln, hfr⟩ := hrel
    obtain ⟨q, fb, hkk, hfrk, hdk, hrk⟩ := har.out
    obtain ⟨c0, c1, c2, c3, c4, c5⟩ := six_cells hkk
    rw [hln.out] at c1
    by_cases hlt : k < n
    · have hlk : k < ak.frames.length := by rw [hln.out]; exact hlt
      obtain ⟨g0, g1, g2, g3, g4, g5, g6⟩ := frm_cells hfrk (getF_at hlk)
      obtain ⟨m, hm⟩ : ∃ m, n - k = m + 1 := ⟨n - k - 1, by omega⟩
      have hinv2 := hinv.out
      rw [hm] at hinv2
      obtain ⟨u, hu⟩ : ∃ u, u = (getF ak k).dirty := ⟨_, rfl⟩
      rw [← hu] at g4
      have hmk : m = n - (k + 1) := by omega
      have HU := hide hu
      have HI2 := hide hinv2
      have HMk := hide hmk
      clear hkk hfrk hdk hrk hu hinv2 hm hmk
      cases u with
      | false =>
        go_wp2_with fail
        exact ⟨⟨k + 1, ak, by simp, by omega, hide (by rw [HI2.out, flushF_step HU.out.symm, HMk.out]), har, hav, hln, hfr⟩, by simp [intOf]; omega⟩
      | true =>
        have hwa := awrite_any B p k ak wr har.out hav.out hlk
        obtain ⟨Q, hQ⟩ : ∃ Q, Q = writeA ak k := ⟨_, rfl⟩
        have hwi := writeA_inv hav.out k
        have hwl := (writeA_kp ak k).len
        rw [← hQ] at hwa hwi hwl
        have HQ := hide hQ
        obtain ⟨a2, r2⟩ := Q
        dsimp only at hwa hwi hwl
        have HWa := hide hwa
        have HWi := hide hwi
        have HWl := hide (hwl.trans hln.out)
        clear hwa hwi hwl hQ
        by_cases h0 : r2 = 0
        · subst h0
          go_wp2_with (go_at_call 176; refine Calls.mono HWa.out ?_; rintro e w3 ⟨rfl, ha3, hf3⟩; have HA3 := hide ha3; have HF3 := hide hf3; clear ha3 hf3)
          exact ⟨⟨k + 1, a2, by simp, by omega, hide (by rw [HI2.out, flushF_ok HU.out.symm (by rw [← HQ.out]), ← HQ.out, HMk.out]), HA3, HWi, HWl, hide (hfr.out.trans HF3.out)⟩, by simp [intOf]; omega⟩
        · have h0b : (r2 != 0) = true := by simp [h0]
          go_wp2_with (go_at_call 176; refine Calls.mono HWa.out ?_; rintro e w3 ⟨rfl, ha3, hf3⟩; have HA3 := hide ha3; have HF3 := hide hf3; clear ha3 hf3)
          go_ret
          have hRe : R = (a2, r2) := by rw [HI2.out, flushF_bad HU.out.symm (by rw [← HQ.out]; exact h0), ← HQ.out]
          have hFe := HFl.out
          rw [hRe, if_pos h0] at hFe
          rw [hFe]
          exact ⟨rfl, HA3.out, hfr.out.trans HF3.out⟩
    · obtain rfl : k = n := by omega
      have hRe : R = (ak, 0) := by rw [hinv.out, Nat.sub_self, flushF]
      have hFe := HFl.out
      rw [hRe, if_neg (by simp)] at hFe
      have HFe := hide hFe
      have hsy := sync_disk B q ak.dev wr hdk hav.out.dev
      have HSy := hide hsy
      have HKk := hide hkk
      have HFk := hide hfrk
      have HRk := hide hrk
      clear hkk hfrk hdk hrk hsy hRe hFe
      go_wp2_with (go_at_call 104; refine Calls.mono HSy.out ?_; rintro e w3 ⟨rfl, hd3, hf3⟩; have HD3 := hide hd3; have HF3 := hide hf3; clear hd3 hf3)
      go_ret
      rw [HFe.out]
      exact ⟨rfl, ⟨q, fb, HKk.out.afr HF3.out nd_arena, HFk.out.afr HF3.out nd_frame, HD3.out, HRk.out⟩, hfr.out.trans (HF3.out.wide fun _ => dty_a)⟩
def hitD (name : ByteArray) (f : Frm) : Bool := holdsF f && decide (f.nm = name) && decide (0 < f.pins)
def dropF (name : ByteArray) (f : Frm) : Frm := if holdsF f && decide (f.nm = name) then zeroF else f
def partF (name : ByteArray) (l : List Frm) (k : Nat) : List Frm := (l.take k).map (dropF name) ++ l.drop k
theorem partF_get {name : ByteArray} {l : List Frm} {k : Nat} {f : Frm} (h : l[k]? = some f) : (partF name l k)[k]? = some f := by
  have hi := (List.getElem?_eq_some_iff.1 h).1
  unfold partF
  rw [List.getElem?_append_right (by simp; omega)]
  simp
  rw [show min k l.length = k by omega, Nat.sub_self, Nat.add_zero]
  exact h
theorem partF_next {name : ByteArray} {l : List Frm} {k : Nat} {f : Frm} (h : l[k]? = some f) : partF name l (k + 1) = (partF name l k).set k (dropF name f) := by
  have hi := (List.getElem?_eq_some_iff.1 h).1
  unfold partF
  rw [List.take_add_one, h, List.set_append_right _ _ (by simp; omega)]
  have e : k - ((l.take k).map (dropF name)).length = 0 := by simp; omega
  rw [e, List.drop_eq_getElem_cons hi, List.set_cons_zero]
  simp
theorem hitD_none {name : ByteArray} {l : List Frm} (h : ∀ j y, j < l.length → l[j]? = some y → hitD name y = false) : (l.any fun f => holdsF f && decide (f.nm = name) && decide (0 < f.pins)) = false := by
  cases hc : (l.any fun f => holdsF f && decide (f.nm = name) && decide (0 < f.pins)) with
  | false => rfl
  | true =>
    obtain ⟨x, hx, h2⟩ := List.any_eq_true.1 hc
    obtain ⟨j, hj⟩ := List.mem_iff_getElem?.1 hx
    have := h j x (List.getElem?_eq_some_iff.1 hj).1 hj
    unfold hitD at this
    rw [this] at h2; cases h2
theorem hitD_some {name : ByteArray} {l : List Frm} {k : Nat} {f : Frm} (hf : l[k]? = some f) (h : hitD name f = true) : (l.any fun f => holdsF f && decide (f.nm = name) && decide (0 < f.pins)) = true := List.any_eq_true.2 ⟨f, List.mem_of_getElem? hf, h⟩
end Go.Proofs.YtmopegpkoedgbaaGreatDoor
/- Walk: (*pool.Arena).Drop. -/
namespace Go.Proofs.YtmopegpkoedgbaaGreatDoor
open Go.RowKit Go.Sort

theorem noD_step {name : ByteArray} {l : List Frm} {k : Nat} {f : Frm} (h : ∀ j y, j < k → l[j]? = some y → hitD name y = false) (hx : l[k]? = some f) (hp : hitD name f = false) : ∀ j y, j < k + 1 → l[j]? = some y → hitD name y = false := findIdx_step h hx hp
set_option maxRecDepth 100000 in
set_option maxHeartbeats 8000000 in
theorem drop_any (B : Fld) (p : Nat) (name : ByteArray) (a : Ar) (w : World) (ha : ArAt w B p a) :
    Calls Tryz.prog 135 #[.pointer (some ⟨p, 0, none⟩), .string name] w fun e w' => e = .returned (.int .i64 (dropA a name).2) ∧ ArAt w' B p (dropA a name).1 ∧ AFr ATy B w w' := by
  have HA := hide ha
  obtain ⟨q, fb, hk, hf, hd, hr⟩ := ha
  obtain ⟨D, hD⟩ : ∃ D, D = dropA a name := ⟨_, rfl⟩
  rw [← hD]
  have hDe : ∀ t, t = (a.frames.any fun f => holdsF f && decide (f.nm = name) && decide (0 < f.pins)) → D = if t then (a, 11) else ({ a with frames := a.frames.map (dropF name) }, 0) := fun t ht => by rw [hD, ht]; rfl
  have HDe := hide hDe
  have hho := fun (f : Frm) W => holds_any f W
  have HHo := hide hho
  obtain ⟨c0, c1, c2, c3, c4, c5⟩ := six_cells hk
  have hn2 := hr.2.2.2.1
  have hpl := hk.lt
  have HK := hide hk
  have HF := hide hf
  have HD := hide hd
  have HR := hide hr
  clear hk hf hd hr hD hDe hho
  go_enter Tryz.func135, Tryz.ntmps135
  go_wp2_with fail
  go_loopw [14] (fun i wr => ∃ k : Nat, i = .int .i64 k ∧ k ≤ a.frames.length ∧ Hid (∀ j y, j < k → a.frames[j]? = some y → hitD name y = false) ∧ Hid (Below w.heap.size w wr)) (fun i _ => a.frames.length - (intOf i).toNat)
  case atStart => exact ⟨0, rfl, by omega, hide (fun j y hj => by omega), hide (Below.refl _ _)⟩
  case round =>
    obtain ⟨k, rfl, hk, hno, hbe⟩ := hrel
    by_cases hlt : k < a.frames.length
    · obtain ⟨f, hx⟩ : ∃ x, a.frames[k]? = some x := ⟨a.frames[k], List.getElem?_eq_getElem hlt⟩
      obtain ⟨g0, g1, g2, g3, g4, g5, g6⟩ := frm_cells (HF.out.keep hbe.out) hx
      have hhx := fun W => HHo.out f W
      have HX := hide hx
      obtain ⟨u, hu⟩ : ∃ u, u = holdsF f := ⟨_, rfl⟩
      have HU := hide hu
      rw [← hu] at hhx
      unfold frmA at hhx
      have HHX := hide hhx
      have hxk : Bk (wr.alloc (.cells #[.string f.nm, .int .i64 f.sec, .string f.dt, .int .i64 f.pins, .bool f.dirty, .int .u64 f.tick, .bool f.leased] 233)) wr.heap.size 233 #[.string f.nm, .int .i64 f.sec, .string f.dt, .int .i64 f.pins, .bool f.dirty, .int .u64 f.tick, .bool f.leased] := Bk.new _ _ _
      have HXk := hide hxk
      clear hhx hx hu hxk
      cases u with
      | false =>
        have hh : hitD name f = false := by unfold hitD; rw [← HU.out]; rfl
        have HH := hide hh
        clear hh
        go_wp2_with (go_at_call 177; refine Calls.mono (HHX.out _) ?_; rintro e w2 ⟨rfl, hb2⟩; have hx2 := HXk.out.keep hb2; obtain ⟨z0, z1, z2, z3, z4, z5, z6⟩ := seven_cells hx2; have HB2 := hide (btrans (ba1 _ _) hb2); clear hb2 hx2)
        exact ⟨⟨k + 1, by simp, by omega, hide (noD_step hno.out HX.out HH.out), hide (btrans hbe.out HB2.out)⟩, by simp [intOf]; omega⟩
      | true =>
        by_cases h2 : f.nm = name
        · have e3 : (f.nm.toList == name.toList) = true := by rw [h2]; simp
          have e3b : f.nm.toList = name.toList := by rw [h2]
          by_cases h3 : 0 < f.pins
          · have hh : hitD name f = true := by unfold hitD; rw [← HU.out]; simp [h2, h3]
            have HH := hide hh
            clear hh e3b h2
            go_wp2_with (go_at_call 177; refine Calls.mono (HHX.out _) ?_; rintro e w2 ⟨rfl, hb2⟩; have hx2 := HXk.out.keep hb2; obtain ⟨z0, z1, z2, z3, z4, z5, z6⟩ := seven_cells hx2; have HB2 := hide (btrans (ba1 _ _) hb2); clear hb2 hx2)
            go_ret
            have hde := HDe.out _ (hitD_some HX.out HH.out).symm
            rw [hde, if_pos rfl]
            exact ⟨rfl, HA.out.keep (btrans hbe.out HB2.out), AFr.below (btrans hbe.out HB2.out)⟩
          · have hh : hitD name f = false := by unfold hitD; rw [← HU.out]; simp [h3]
            have HH := hide hh
            clear hh e3b h2
            go_wp2_with (go_at_call 177; refine Calls.mono (HHX.out _) ?_; rintro e w2 ⟨rfl, hb2⟩; have hx2 := HXk.out.keep hb2; obtain ⟨z0, z1, z2, z3, z4, z5, z6⟩ := seven_cells hx2; have HB2 := hide (btrans (ba1 _ _) hb2); clear hb2 hx2)
            exact ⟨⟨k + 1, by simp, by omega, hide (noD_step hno.out HX.out HH.out), hide (btrans hbe.out HB2.out)⟩, by simp [intOf]; omega⟩
        · have e3 : ¬ f.nm.toList = name.toList := fun h => h2 (toList_inj' h)
          have e4 : (f.nm.toList == name.toList) = false := by simp [e3]
          have hh : hitD name f = false := by unfold hitD; rw [← HU.out]; simp [h2]
          have HH := hide hh
          clear hh h2
          go_wp2_with (go_at_call 177; refine Calls.mono (HHX.out _) ?_; rintro e w2 ⟨rfl, hb2⟩; have hx2 := HXk.out.keep hb2; obtain ⟨z0, z1, z2, z3, z4, z5, z6⟩ := seven_cells hx2; have HB2 := hide (btrans (ba1 _ _) hb2); clear hb2 hx2)
          exact ⟨⟨k + 1, by simp, by omega, hide (noD_step hno.out HX.out HH.out), hide (btrans hbe.out HB2.out)⟩, by simp [intOf]; omega⟩
    · obtain rfl : k = a.frames.length := by omega
      have hde := HDe.out _ (hitD_none hno.out).symm
      have HDe2 := hide hde
      obtain ⟨d0, d1, d2, d3, d4, d5⟩ := six_cells (HK.out.keep hbe.out)
      obtain ⟨w1, rfl⟩ : ∃ w1, w1 = wr := ⟨wr, rfl⟩
      have HB1 := hide hbe.out
      clear hde c0 c1 c2 c3 c4 c5 hno
      go_wp2_with fail
      go_loopw [37] (fun i wr => ∃ k : Nat, i = .int .i64 k ∧ k ≤ a.frames.length ∧ Hid (Bk wr p 136 #[.pointer (some ⟨q, 0, none⟩), .slice (some ⟨fb, 0, none⟩) a.frames.length a.frames.length, .int .u64 a.tick, .int .u64 a.reads, .int .u64 a.writes, .int .i64 a.peak]) ∧ Hid (Bk wr fb 233 (flatF (partF name a.frames k)).toArray) ∧ Hid (DvAt wr B q a.dev) ∧ Hid (AFr ATy B w wr)) (fun i _ => a.frames.length - (intOf i).toNat)
      case atStart => exact ⟨0, rfl, by omega, hide (HK.out.keep HB1.out), hide (by have := HF.out.keep HB1.out; simpa [partF] using this), hide (HD.out.keep HB1.out), hide (AFr.below HB1.out)⟩
      case round =>
        obtain ⟨k, rfl, hk, hkk, hff, hdd, hfr⟩ := hrel
        obtain ⟨c0, c1, c2, c3, c4, c5⟩ := six_cells hkk.out
        have hpr := hkk.out.lt
        have hfbl := hff.out.lt
        by_cases hlt : k < a.frames.length
        · clear d0 d1 d2 d3 d4 d5
          obtain ⟨f, hx⟩ : ∃ x, a.frames[k]? = some x := ⟨a.frames[k], List.getElem?_eq_getElem hlt⟩
          obtain ⟨g0, g1, g2, g3, g4, g5, g6⟩ := frm_cells hff.out (partF_get (name := name) hx)
          have hhx := fun W => HHo.out f W
          have hnext := partF_next (name := name) hx
          obtain ⟨u, hu⟩ : ∃ u, u = holdsF f := ⟨_, rfl⟩
          have hdf : dropF name f = if u && decide (f.nm = name) then zeroF else f := by unfold dropF; rw [hu]
          have hsm : (partF name a.frames k).set k f = partF name a.frames k := List.set_getElem_self_of (partF_get hx)
          have hpg := partF_get (name := name) hx
          have HPg := hide hpg
          have HSm := hide hsm
          have HDf := hide hdf
          have HNx := hide hnext
          rw [← hu] at hhx
          unfold frmA at hhx
          have HHX := hide hhx
          have hxk : Bk (wr.alloc (.cells #[.string f.nm, .int .i64 f.sec, .string f.dt, .int .i64 f.pins, .bool f.dirty, .int .u64 f.tick, .bool f.leased] 233)) wr.heap.size 233 #[.string f.nm, .int .i64 f.sec, .string f.dt, .int .i64 f.pins, .bool f.dirty, .int .u64 f.tick, .bool f.leased] := Bk.new _ _ _
          have HXk := hide hxk
          clear hhx hx hu hxk hnext hdf hsm hpg
          cases u with
          | false =>
            go_wp2_with (go_at_call 177; refine Calls.mono (HHX.out _) ?_; rintro e w2 ⟨rfl, hb2⟩; have hx2 := HXk.out.keep hb2; obtain ⟨z0, z1, z2, z3, z4, z5, z6⟩ := seven_cells hx2; have HB2 := hide (btrans (ba1 _ _) hb2); clear hb2 hx2)
            exact ⟨⟨k + 1, by simp, by omega, hide (hkk.out.keep HB2.out), hide (by rw [HNx.out, HDf.out, if_neg (by simp), HSm.out]; exact hff.out.keep HB2.out), hide (hdd.out.keep HB2.out), hide (hfr.out.trans (AFr.below HB2.out))⟩, by simp [intOf]; omega⟩
          | true =>
            by_cases h2 : f.nm = name
            · have e3 : (f.nm.toList == name.toList) = true := by rw [h2]; simp
              have e3b : f.nm.toList = name.toList := by rw [h2]
              have H2 := hide h2
              clear h2
              have hqf : ¬ p = fb := fun e => hkk.out.ne_ hff.out (by decide) e
              have hqf2 : ¬ fb = p := fun e => hqf e.symm
              go_wp2_with (go_at_call 177; refine Calls.mono (HHX.out _) ?_; rintro e w2 ⟨rfl, hb2⟩; have hx2 := HXk.out.keep hb2; obtain ⟨z0, z1, z2, z3, z4, z5, z6⟩ := seven_cells hx2; have HB2 := hide (btrans (ba1 _ _) hb2); have hk2 := hkk.out.keep HB2.out; have hf2 := hff.out.keep HB2.out; obtain ⟨y0, y1, y2, y3, y4, y5⟩ := six_cells hk2; obtain ⟨x0, x1, x2, x3, x4, x5, x6⟩ := frm_cells hf2 HPg.out; obtain ⟨t0, t1, t2, t3, t4, t5, t6⟩ := seven_free hf2 k; have HK2 := hide hk2; have HF2 := hide hf2; clear hb2 hx2 hk2 hf2)
              refine ⟨⟨k + 1, by simp, by omega, hide (put7_far HK2.out hqf k zeroF), hide ?_, hide (put7_dv (hdd.out.keep HB2.out) HF2.out k zeroF), hide (put7_afr (hfr.out.trans (AFr.below HB2.out)) HF2.out HR.out.2.1 k zeroF)⟩, by simp [intOf]; omega⟩
              rw [HNx.out, HDf.out, if_pos (by simp [H2.out])]
              exact put7_bk HF2.out HPg.out zeroF
            · have e3 : ¬ f.nm.toList = name.toList := fun h => h2 (toList_inj' h)
              have e4 : (f.nm.toList == name.toList) = false := by simp [e3]
              have H2 := hide h2
              clear h2
              go_wp2_with (go_at_call 177; refine Calls.mono (HHX.out _) ?_; rintro e w2 ⟨rfl, hb2⟩; have hx2 := HXk.out.keep hb2; obtain ⟨z0, z1, z2, z3, z4, z5, z6⟩ := seven_cells hx2; have HB2 := hide (btrans (ba1 _ _) hb2); clear hb2 hx2)
              exact ⟨⟨k + 1, by simp, by omega, hide (hkk.out.keep HB2.out), hide (by rw [HNx.out, HDf.out, if_neg (by simp [H2.out]), HSm.out]; exact hff.out.keep HB2.out), hide (hdd.out.keep HB2.out), hide (hfr.out.trans (AFr.below HB2.out))⟩, by simp [intOf]; omega⟩
        · obtain rfl : k = a.frames.length := by omega
          go_wp2_with fail
          go_ret
          rw [HDe2.out, if_neg (by simp)]
          have hall : partF name a.frames a.frames.length = a.frames.map (dropF name) := by unfold partF; simp
          have hf2 := hff.out
          rw [hall] at hf2
          obtain ⟨r1, r2, r3, r4, r5⟩ := HR.out
          refine ⟨rfl, ⟨q, fb, ?_, hf2, hdd.out, r1, r2, by simp; omega, by simp; omega, fun f hf => ?_⟩, hfr.out⟩
          · simp only [List.length_map]
            exact hkk.out
          · obtain ⟨g, hg, rfl⟩ := List.mem_map.1 hf
            unfold dropF
            split
            · decide
            · exact r5 g hg
end Go.Proofs.YtmopegpkoedgbaaGreatDoor
