/- Lemmas for the row: DskLaw, ArLaw, PoolLaw, PoolLaw2, PoolLaw4, PoolLaw5, PoolLaw6, RdLaw, WtLaw, LivXP. -/
import Derived.Test.YtmopegpkoedgbaaGreatDoorM01
import Derived.Test.YtmopegpkoedgbaaGreatDoorM02
import Derived.Lib.Strings
set_option linter.unusedVariables false
set_option linter.unusedSimpArgs false
/- What a right disk is, plainly: its extents rise by name, each is found by its name, and each function of 'disk' leaves a right one. -/
namespace Go.Proofs.YtmopegpkoedgbaaGreatDoor
open Go.RowKit

theorem bl_irrefl : ∀ (a : List UInt8), Op.bytesLess a a = false
  | [] => rfl
  | a :: x => by rw [Op.bytesLess, bl_irrefl x]; simp
theorem bl_trans : ∀ {a b c : List UInt8}, Op.bytesLess a b = true → Op.bytesLess b c = true → Op.bytesLess a c = true
  | _, _, [], _, h => by cases ‹List UInt8› <;> simp [Op.bytesLess] at h
  | [], _, _ :: _, _, _ => rfl
  | _ :: _, [], _, h, _ => by simp [Op.bytesLess] at h
  | a :: x, b :: y, c :: z, h, k => by
    simp only [Op.bytesLess, Bool.or_eq_true, Bool.and_eq_true, decide_eq_true_eq, beq_iff_eq] at h k ⊢
    rcases h with h | ⟨rfl, h⟩
    · rcases k with k | ⟨rfl, k⟩
      · exact .inl (UInt8.lt_trans h k)
      · exact .inl h
    · rcases k with k | ⟨rfl, k⟩
      · exact .inl k
      · exact .inr ⟨rfl, bl_trans h k⟩
theorem bl_total : ∀ (a b : List UInt8), Op.bytesLess a b = true ∨ a = b ∨ Op.bytesLess b a = true
  | [], [] => .inr (.inl rfl)
  | [], _ :: _ => .inl rfl
  | _ :: _, [] => .inr (.inr rfl)
  | a :: x, b :: y => by
    simp only [Op.bytesLess, Bool.or_eq_true, Bool.and_eq_true, decide_eq_true_eq, beq_iff_eq]
    rcases Nat.lt_trichotomy a.toNat b.toNat with h | h | h
    · exact .inl (.inl (UInt8.lt_iff_toNat_lt.2 h))
    · obtain rfl := UInt8.toNat_inj.1 h
      rcases bl_total x y with k | k | k
      · exact .inl (.inr ⟨rfl, k⟩)
      · exact .inr (.inl (by rw [k]))
      · exact .inr (.inr (.inr ⟨rfl, k⟩))
    · exact .inr (.inr (.inl (UInt8.lt_iff_toNat_lt.2 h)))
theorem toList_inj' {a b : ByteArray} (h : a.toList = b.toList) : a = b := by
  rw [Lib.toList_data, Lib.toList_data] at h
  exact ByteArray.ext (Array.toList_inj.1 h)
theorem sless_irrefl (a : ByteArray) : sless a a = false := bl_irrefl _
theorem sless_trans {a b c : ByteArray} (h : sless a b = true) (k : sless b c = true) : sless a c = true := bl_trans h k
theorem sless_total (a b : ByteArray) : sless a b = true ∨ a = b ∨ sless b a = true := by
  rcases bl_total a.toList b.toList with h | h | h
  · exact .inl h
  · exact .inr (.inl (toList_inj' h))
  · exact .inr (.inr h)
theorem sless_asymm {a b : ByteArray} (h : sless a b = true) : sless b a = false := by
  cases k : sless b a with
  | false => rfl
  | true => have := sless_trans h k; rw [sless_irrefl] at this; cases this
theorem sless_ne {a b : ByteArray} (h : sless a b = true) : a ≠ b := fun e => by rw [e, sless_irrefl] at h; cases h

/-- Names rise. -/
def Rise : List Ext → Prop
  | [] => True
  | x :: r => (∀ y ∈ r, sless x.nm y.nm = true) ∧ Rise r
theorem Rise.app : ∀ {l m : List Ext}, Rise (l ++ m) ↔ Rise l ∧ Rise m ∧ ∀ x ∈ l, ∀ y ∈ m, sless x.nm y.nm = true
  | [], m => by simp [Rise]
  | x :: l, m => by
    rw [List.cons_append, Rise, Rise, Rise.app]
    constructor
    · rintro ⟨h1, h2, h3, h4⟩
      refine ⟨⟨fun y hy => h1 y (by simp [hy]), h2⟩, h3, fun y hy z hz => ?_⟩
      rcases List.mem_cons.1 hy with rfl | hy
      · exact h1 z (by simp [hz])
      · exact h4 y hy z hz
    · rintro ⟨⟨h1, h2⟩, h3, h4⟩
      refine ⟨fun y hy => ?_, h2, h3, fun y hy z hz => h4 y (by simp [hy]) z hz⟩
      rcases List.mem_append.1 hy with hy | hy
      · exact h1 y hy
      · exact h4 x (by simp) y hy
theorem Rise.get {l : List Ext} (h : Rise l) {i j : Nat} {x y : Ext} (hx : l[i]? = some x) (hy : l[j]? = some y) (hij : i < j) : sless x.nm y.nm = true := by
  have e : l = l.take j ++ l.drop j := (List.take_append_drop j l).symm
  rw [e, Rise.app] at h
  refine h.2.2 x (List.mem_of_getElem? (i := i) (by rw [List.getElem?_take, if_pos hij]; exact hx)) y (List.mem_of_getElem? (i := 0) (by rw [List.getElem?_drop, Nat.add_zero]; exact hy))
/-- What the binary search finds: all ahead of it are less, it and all behind it are not. -/
theorem bsE_spec {l : List Ext} {s : ByteArray} (hl : Rise l) : ∀ (f i j : Nat), j - i < f → i ≤ j → j ≤ l.length → (∀ k x, k < i → l[k]? = some x → sless x.nm s = true) → (∀ k x, j ≤ k → l[k]? = some x → sless x.nm s = false) →
    bsE l s f i j ≤ l.length ∧ (∀ k x, k < bsE l s f i j → l[k]? = some x → sless x.nm s = true) ∧ (∀ k x, bsE l s f i j ≤ k → l[k]? = some x → sless x.nm s = false) := by
  intro f
  induction f with
  | zero => intro i j h; omega
  | succ f ih =>
    intro i j hf hij hj h1 h2
    rw [bsE]
    by_cases hlt : i < j
    · rw [if_pos hlt]
      have hh : (i + j) / 2 < l.length := by omega
      have hx : l[(i + j) / 2]? = some l[(i + j) / 2] := List.getElem?_eq_getElem hh
      rw [hx]
      simp only []
      by_cases hs : sless l[(i + j) / 2].nm s = true
      · rw [if_pos hs]
        refine ih _ _ (by omega) (by omega) hj (fun k x hk hkx => ?_) h2
        rcases Nat.lt_or_ge k ((i + j) / 2) with g | g
        · exact sless_trans (hl.get hkx hx g) hs
        · obtain rfl : k = (i + j) / 2 := by omega
          rw [hx] at hkx
          obtain rfl := Option.some.inj hkx
          exact hs
      · rw [if_neg hs]
        have hs' : sless l[(i + j) / 2].nm s = false := by simpa using hs
        refine ih _ _ (by omega) (by omega) (by omega) h1 (fun k x hk hkx => ?_)
        rcases Nat.lt_or_ge ((i + j) / 2) k with g | g
        · cases hc : sless x.nm s with
          | false => rfl
          | true => exact absurd (sless_trans (hl.get hx hkx g) hc) hs
        · obtain rfl : k = (i + j) / 2 := by omega
          rw [hx] at hkx
          obtain rfl := Option.some.inj hkx
          exact hs'
    · rw [if_neg hlt]
      obtain rfl : i = j := by omega
      exact ⟨hj, h1, h2⟩
theorem findI_spec {l : List Ext} (hl : Rise l) (s : ByteArray) : findI l s ≤ l.length ∧ (∀ k x, k < findI l s → l[k]? = some x → sless x.nm s = true) ∧ (∀ k x, findI l s ≤ k → l[k]? = some x → sless x.nm s = false) :=
  bsE_spec hl _ _ _ (by omega) (by omega) (Nat.le_refl _) (by omega) (fun k x hk hx => by rw [List.getElem?_eq_none hk] at hx; cases hx)
/-- What is there is found at its place. -/
theorem findI_at {l : List Ext} (hl : Rise l) {i : Nat} {x : Ext} (hx : l[i]? = some x) : findI l x.nm = i := by
  obtain ⟨h1, h2, h3⟩ := findI_spec hl x.nm
  rcases Nat.lt_trichotomy (findI l x.nm) i with g | g | g
  · obtain ⟨y, hy⟩ : ∃ y, l[findI l x.nm]? = some y := ⟨l[findI l x.nm]'(by have := (List.getElem?_eq_some_iff.1 hx).1; omega), List.getElem?_eq_getElem _⟩
    have := h3 _ y (Nat.le_refl _) hy
    rw [hl.get hy hx g] at this
    cases this
  · exact g
  · have := h2 _ x g hx
    rw [sless_irrefl] at this
    cases this
theorem findIs_iff {l : List Ext} (hl : Rise l) {s : ByteArray} : findIs l s = true ↔ ∃ x ∈ l, x.nm = s := by
  unfold findIs
  constructor
  · intro h
    cases hx : l[findI l s]? with
    | none => rw [hx] at h; cases h
    | some x => rw [hx] at h; exact ⟨x, List.mem_of_getElem? hx, of_decide_eq_true h⟩
  · rintro ⟨x, hx, rfl⟩
    obtain ⟨i, hi⟩ := List.mem_iff_getElem?.1 hx
    rw [findI_at hl hi, hi]
    simp
/-- An extent that may be. -/
def extOK (x : Ext) : Prop := namedB x.nm = true ∧ 0 < x.dt.size ∧ x.dt.size % 64 = 0
theorem usedE_cons (x : Ext) (l : List Ext) : usedE (x :: l) = secsE x + usedE l := by simp [usedE]
theorem usedE_app (l m : List Ext) : usedE (l ++ m) = usedE l + usedE m := by simp [usedE]
theorem extsOK_iff : ∀ {l : List Ext} {last : ByteArray} {size : Int}, 0 ≤ size → (extsOK last size l = true ↔ (∀ x ∈ l, extOK x) ∧ Rise l ∧ (∀ x ∈ l, sless last x.nm = true) ∧ (usedE l : Int) ≤ size)
  | [], last, size, h0 => by simp [extsOK, Rise, usedE, h0]
  | x :: r, last, size, h0 => by
    rw [extsOK, usedE_cons, Rise]
    simp only [Bool.and_eq_true, decide_eq_true_eq, Bool.not_eq_true', Bool.or_eq_false_iff, decide_eq_false_iff_not]
    have hlt : (sless x.nm last = false ∧ ¬ x.nm = last) ↔ sless last x.nm = true := by
      constructor
      · rintro ⟨h1, h2⟩
        rcases sless_total last x.nm with h | h | h
        · exact h
        · exact absurd h.symm h2
        · rw [h1] at h; cases h
      · intro h; exact ⟨sless_asymm h, (sless_ne h).symm⟩
    rw [hlt]
    constructor
    · rintro ⟨⟨⟨⟨⟨h1, h2⟩, h3⟩, h4⟩, h5⟩, h6⟩
      obtain ⟨g1, g2, g3, g4⟩ := (extsOK_iff h5).1 h6
      refine ⟨fun y hy => ?_, ⟨g3, g2⟩, fun y hy => ?_, by omega⟩
      · rcases List.mem_cons.1 hy with rfl | hy
        · exact ⟨h1, h3, h4⟩
        · exact g1 y hy
      · rcases List.mem_cons.1 hy with rfl | hy
        · exact h2
        · exact sless_trans h2 (g3 y hy)
    · rintro ⟨h1, ⟨h2, h3⟩, h4, h5⟩
      have hx := h1 x (by simp)
      have h6 : (0 : Int) ≤ size - (secsE x : Nat) := by omega
      exact ⟨⟨⟨⟨⟨hx.1, h4 x (by simp)⟩, hx.2.1⟩, hx.2.2⟩, h6⟩, (extsOK_iff h6).2 ⟨fun y hy => h1 y (by simp [hy]), h3, h2, by omega⟩⟩
/-- A write that may wait. -/
def waitP (l : List Ext) (w : Wt) : Prop := ∃ x ∈ l, x.nm = w.nm ∧ 0 ≤ w.sec ∧ w.sec < (secsE x : Nat) ∧ w.dt.size = 64
theorem waitOK_iff {l : List Ext} (hl : Rise l) {w : Wt} : waitOK l w = true ↔ waitP l w := by
  unfold waitOK waitP
  constructor
  · intro h
    cases hx : l[findI l w.nm]? with
    | none => rw [hx] at h; cases h
    | some x =>
      rw [hx] at h
      simp only [Bool.and_eq_true, decide_eq_true_eq] at h
      exact ⟨x, List.mem_of_getElem? hx, h.1.1.1, h.1.1.2, h.1.2, h.2⟩
  · rintro ⟨x, hx, e, h1, h2, h3⟩
    obtain ⟨i, hi⟩ := List.mem_iff_getElem?.1 hx
    rw [← e, findI_at hl hi, hi]
    simp [h1, h2, h3]
/-- A right disk. -/
structure Right (d : Dsk) : Prop where
  size0 : 0 ≤ d.size
  size1 : d.size ≤ 16384
  nwaits : d.waits.length ≤ 16384
  fuse : -1 ≤ d.fuse
  exts : ∀ x ∈ d.exts, extOK x
  rise : Rise d.exts
  used : (usedE d.exts : Int) ≤ d.size
  waits : ∀ w ∈ d.waits, waitP d.exts w
theorem namedB_pos {s : ByteArray} (h : namedB s = true) : 0 < s.size ∧ s.size ≤ 16 := by unfold namedB at h; simpa using h
theorem sless_nil {s : ByteArray} (h : 0 < s.size) : sless ⟨#[]⟩ s = true := by
  unfold sless
  have e : s.toList = s.data.toList := Lib.toList_data s
  have e0 : (⟨#[]⟩ : ByteArray).toList = [] := by rw [Lib.toList_data]
  rw [e, e0]
  cases hs : s.data.toList with
  | nil =>
    have h1 : s.data.toList.length = 0 := by rw [hs]; rfl
    rw [Array.length_toList] at h1
    have h2 : s.size = s.data.size := rfl
    omega
  | cons a l => rfl
theorem checkB_iff {d : Dsk} : checkB d = true ↔ Right d := by
  unfold checkB
  simp only [Bool.and_eq_true, decide_eq_true_eq, List.all_eq_true]
  constructor
  · rintro ⟨⟨⟨⟨⟨h1, h2⟩, h3⟩, h4⟩, h5⟩, h6⟩
    obtain ⟨g1, g2, g3, g4⟩ := (extsOK_iff h1).1 h5
    exact ⟨h1, h2, h3, h4, g1, g2, g4, fun w hw => (waitOK_iff g2).1 (h6 w hw)⟩
  · intro h
    exact ⟨⟨⟨⟨⟨h.size0, h.size1⟩, h.nwaits⟩, h.fuse⟩, (extsOK_iff h.size0).2 ⟨h.exts, h.rise, fun x hx => sless_nil (namedB_pos (h.exts x hx).1).1, h.used⟩⟩, fun w hw => (waitOK_iff h.rise).2 (h.waits w hw)⟩
/-- An extent's place by its name. -/
theorem get_unique {l : List Ext} (hl : Rise l) {x y : Ext} (hx : x ∈ l) (hy : y ∈ l) (e : x.nm = y.nm) : x = y := by
  obtain ⟨i, hi⟩ := List.mem_iff_getElem?.1 hx
  obtain ⟨j, hj⟩ := List.mem_iff_getElem?.1 hy
  have h1 := findI_at hl hi
  have h2 := findI_at hl hj
  rw [e, h2] at h1
  subst h1
  rw [hi] at hj
  exact Option.some.inj hj
theorem placeD_iff {d : Dsk} (h : Right d) {name : ByteArray} {sec : Int} : (placeD d name sec).2 = 0 ↔ ∃ x ∈ d.exts, x.nm = name ∧ 0 ≤ sec ∧ sec < (secsE x : Nat) := by
  unfold placeD
  constructor
  · intro g
    cases hx : d.exts[findI d.exts name]? with
    | none => rw [hx] at g; cases g
    | some x =>
      rw [hx] at g
      simp only [] at g
      split at g
      · split at g
        · cases g
        · exact ⟨x, List.mem_of_getElem? hx, by assumption, by omega, by omega⟩
      · cases g
  · rintro ⟨x, hx, rfl, h1, h2⟩
    obtain ⟨i, hi⟩ := List.mem_iff_getElem?.1 hx
    rw [findI_at h.rise hi, hi]
    simp only [if_true]
    rw [if_neg (by omega)]
theorem zerosB_size (n : Nat) : (zerosB n).size = n := by unfold zerosB; show (List.replicate n (0 : UInt8)).toArray.size = n; simp
theorem insE_mem {l : List Ext} {i : Nat} {x y : Ext} : y ∈ insE l i x ↔ y = x ∨ y ∈ l := by
  unfold insE
  rw [List.mem_append, List.mem_cons]
  constructor
  · rintro (h | h | h)
    · exact .inr (List.mem_of_mem_take h)
    · exact .inl h
    · exact .inr (List.mem_of_mem_drop h)
  · rintro (h | h)
    · exact .inr (.inl h)
    · rw [← List.take_append_drop i l, List.mem_append] at h
      rcases h with h | h
      · exact .inl h
      · exact .inr (.inr h)
theorem insE_used (l : List Ext) (i : Nat) (x : Ext) : usedE (insE l i x) = usedE l + secsE x := by
  unfold insE
  rw [usedE_app, usedE_cons]
  conv => rhs; rw [← List.take_append_drop i l, usedE_app]
  omega
theorem insE_rise {l : List Ext} (hl : Rise l) {x : Ext} (hn : findIs l x.nm = false) : Rise (insE l (findI l x.nm) x) := by
  obtain ⟨h1, h2, h3⟩ := findI_spec hl x.nm
  have hne : ∀ y ∈ l, y.nm ≠ x.nm := fun y hy e => by
    have := (findIs_iff hl).2 ⟨y, hy, e⟩
    rw [hn] at this; cases this
  have ht : ∀ y ∈ l.take (findI l x.nm), sless y.nm x.nm = true := fun y hy => by
    obtain ⟨k, hk⟩ := List.mem_iff_getElem?.1 hy
    rw [List.getElem?_take] at hk
    split at hk
    · exact h2 k y (by assumption) hk
    · cases hk
  have hd : ∀ y ∈ l.drop (findI l x.nm), sless x.nm y.nm = true := fun y hy => by
    obtain ⟨k, hk⟩ := List.mem_iff_getElem?.1 hy
    rw [List.getElem?_drop] at hk
    have := h3 _ y (by omega) hk
    rcases sless_total x.nm y.nm with g | g | g
    · exact g
    · exact absurd g.symm (hne y (List.mem_of_mem_drop hy))
    · rw [this] at g; cases g
  have hl' := hl
  rw [← List.take_append_drop (findI l x.nm) l, Rise.app] at hl'
  unfold insE
  rw [Rise.app, Rise]
  refine ⟨hl'.1, ⟨hd, hl'.2.1⟩, fun y hy z hz => ?_⟩
  rcases List.mem_cons.1 hz with rfl | hz
  · exact ht y hy
  · exact hl'.2.2 y hy z hz
/-- A new extent leaves a right disk. -/
theorem newD_right {d : Dsk} (h : Right d) (name : ByteArray) (n : Int) : Right (newD d name n).1 := by
  unfold newD
  split
  · exact h
  split
  · exact h
  split
  · exact h
  rename_i g1 g2 g3
  have hn : namedB name = true ∧ 1 ≤ n := by
    simp only [Bool.or_eq_true, Bool.not_eq_true', decide_eq_true_eq, not_or] at g1
    exact ⟨by simpa using g1.1, by omega⟩
  have hs : (zerosB (64 * n.toNat)).size = 64 * n.toNat := zerosB_size _
  have hse : secsE ⟨name, zerosB (64 * n.toNat)⟩ = n.toNat := by unfold secsE; rw [hs]; omega
  refine ⟨h.size0, h.size1, h.nwaits, h.fuse, fun x hx => ?_, insE_rise (x := ⟨name, zerosB (64 * n.toNat)⟩) h.rise (by simpa using g2), ?_, fun w hw => ?_⟩
  · rcases insE_mem.1 hx with rfl | hx
    · exact ⟨hn.1, by show 0 < (zerosB _).size; rw [hs]; omega, by show (zerosB _).size % 64 = 0; rw [hs]; omega⟩
    · exact h.exts x hx
  · show ((usedE (insE _ _ _) : Nat) : Int) ≤ d.size
    rw [insE_used, hse]
    unfold roomD at g3
    omega
  · obtain ⟨x, hx, g⟩ := h.waits w hw
    exact ⟨x, insE_mem.2 (.inr hx), g⟩
theorem writeD_right {d : Dsk} (h : Right d) (name : ByteArray) (sec : Int) (data : ByteArray) : Right (writeD d name sec data).1 := by
  unfold writeD
  split
  · exact h
  split
  · exact h
  split
  · exact h
  rename_i g1 g2 g3
  obtain ⟨x, hx, e, h1, h2⟩ := (placeD_iff h).1 (by simpa using g1)
  have hw : ∀ w ∈ d.waits ++ [(⟨name, sec, data⟩ : Wt)], waitP d.exts w := fun w hw => by
    rcases List.mem_append.1 hw with hw | hw
    · exact h.waits w hw
    · obtain rfl := List.mem_singleton.1 hw
      exact ⟨x, hx, e, h1, h2, by simpa using g2⟩
  have hl : (d.waits ++ [(⟨name, sec, data⟩ : Wt)]).length ≤ 16384 := by rw [List.length_append]; have := h.nwaits; simp only [List.length_cons, List.length_nil]; omega
  split
  · exact ⟨h.size0, h.size1, hl, h.fuse, h.exts, h.rise, h.used, hw⟩
  · refine ⟨h.size0, h.size1, hl, ?_, h.exts, h.rise, h.used, hw⟩
    show -1 ≤ if 0 < d.fuse then d.fuse - 1 else d.fuse
    have := h.fuse
    split <;> omega
theorem lay_size {b s : ByteArray} {k : Nat} (h : k + s.size ≤ b.size) : (lay b k s).size = b.size := by
  unfold lay
  simp only [ByteArray.size_append, ByteArray.size_extract]
  omega
theorem settleE_nm (keep : Nat → Bool) : ∀ (ws : List Wt) (k : Nat) (x : Ext), (settleE keep k ws x).nm = x.nm
  | [], _, _ => rfl
  | w :: r, k, x => by rw [settleE, settleE_nm keep r]; split <;> rfl
theorem settleE_size (keep : Nat → Bool) : ∀ (ws : List Wt) (k : Nat) (x : Ext), (∀ w ∈ ws, w.nm = x.nm → 64 * w.sec.toNat + w.dt.size ≤ x.dt.size) → (settleE keep k ws x).dt.size = x.dt.size
  | [], _, _, _ => rfl
  | w :: r, k, x, h => by
    rw [settleE]
    split
    · rename_i g
      have e : w.nm = x.nm := by simp at g; exact g.1
      have hz := lay_size (h w (by simp) e)
      rw [settleE_size keep r _ _ (fun v hv ev => by show _ ≤ (lay _ _ _).size; rw [hz]; exact h v (by simp [hv]) ev)]
      exact hz
    · exact settleE_size keep r _ _ (fun v hv ev => h v (by simp [hv]) ev)
theorem wait_fits {d : Dsk} (h : Right d) {w : Wt} (hw : w ∈ d.waits) {x : Ext} (hx : x ∈ d.exts) (e : w.nm = x.nm) : 0 ≤ w.sec ∧ w.dt.size = 64 ∧ 64 * w.sec.toNat + w.dt.size ≤ x.dt.size := by
  obtain ⟨y, hy, g0, g1, g2, g3⟩ := h.waits w hw
  obtain rfl := get_unique h.rise hy hx (g0.trans e)
  unfold secsE at g2
  exact ⟨g1, g3, by omega⟩
theorem map_rise {f : Ext → Ext} (hf : ∀ x, (f x).nm = x.nm) : ∀ {l : List Ext}, Rise l → Rise (l.map f)
  | [], _ => trivial
  | x :: r, h => by
    rw [List.map_cons, Rise]
    refine ⟨fun y hy => ?_, map_rise hf h.2⟩
    obtain ⟨z, hz, rfl⟩ := List.mem_map.1 hy
    rw [hf, hf]
    exact h.1 z hz
theorem settleD_right {d : Dsk} (h : Right d) (keep : Nat → Bool) : Right (settleD keep d) := by
  have hz : ∀ x ∈ d.exts, (settleE keep 0 d.waits x).dt.size = x.dt.size := fun x hx => settleE_size keep _ _ _ fun w hw e => (wait_fits h hw hx e).2.2
  refine ⟨h.size0, h.size1, by show ([] : List Wt).length ≤ _; simp, h.fuse, fun x hx => ?_, map_rise (settleE_nm keep _ _) h.rise, ?_, fun w hw => by cases hw⟩
  · obtain ⟨y, hy, rfl⟩ := List.mem_map.1 hx
    have := h.exts y hy
    exact ⟨by rw [settleE_nm]; exact this.1, by rw [hz y hy]; exact this.2.1, by rw [hz y hy]; exact this.2.2⟩
  · show ((usedE (d.exts.map _) : Nat) : Int) ≤ d.size
    have : usedE (d.exts.map (settleE keep 0 d.waits)) = usedE d.exts := by
      unfold usedE
      rw [List.map_map]
      congr 1
      exact List.map_congr_left fun x hx => by show secsE _ = secsE x; unfold secsE; rw [hz x hx]
    rw [this]; exact h.used
theorem zero_right : Right zeroD := by
  refine ⟨by decide, by decide, by decide, by decide, fun x hx => ?_, trivial, by decide, fun w hw => ?_⟩
  · cases hx
  · cases hw
theorem openD_right (d : Dsk) : Right (openD d).1 := by
  unfold openD
  split
  · exact checkB_iff.1 (by assumption)
  · exact zero_right
end Go.Proofs.YtmopegpkoedgbaaGreatDoor
/- A pool over a right disk, plainly: what holds a sector has a sector's bytes, and no operation but 'Drop' has a frame hold nothing that held something. -/
namespace Go.Proofs.YtmopegpkoedgbaaGreatDoor
open Go.RowKit

structure InvA (a : Ar) : Prop where
  dev : Right a.dev
  data : ∀ f ∈ a.frames, holdsF f = true → f.dt.size = 64
/-- What held something holds something. -/
structure Kp (a b : Ar) : Prop where
  len : b.frames.length = a.frames.length
  hold : ∀ i, holdsF (getF a i) = true → holdsF (getF b i) = true
theorem Kp.refl (a : Ar) : Kp a a := ⟨rfl, fun _ h => h⟩
theorem Kp.trans {a b c : Ar} (h : Kp a b) (k : Kp b c) : Kp a c := ⟨k.len.trans h.len, fun i hi => k.hold i (h.hold i hi)⟩
theorem zero_not : holdsF zeroF = false := by decide
theorem hold_lt {a : Ar} {i : Nat} (h : holdsF (getF a i) = true) : i < a.frames.length := by
  rcases Nat.lt_or_ge i a.frames.length with g | g
  · exact g
  · unfold getF at h
    rw [List.getD_eq_getElem?_getD, List.getElem?_eq_none g] at h
    rw [show (none : Option Frm).getD zeroF = zeroF from rfl, zero_not] at h
    cases h
theorem getF_at {a : Ar} {i : Nat} (h : i < a.frames.length) : a.frames[i]? = some (getF a i) := by
  unfold getF
  rw [List.getD_eq_getElem?_getD, List.getElem?_eq_getElem h]; rfl
theorem getF_mem {a : Ar} {i : Nat} (h : i < a.frames.length) : getF a i ∈ a.frames := List.mem_of_getElem? (getF_at h)
theorem getF_set {a : Ar} {i j : Nat} {f : Frm} : getF (setF a i f) j = if i = j ∧ i < a.frames.length then f else getF a j := by
  unfold getF setF
  simp only [List.getD_eq_getElem?_getD]
  rw [List.getElem?_set]
  by_cases h : i = j
  · subst h
    by_cases g : i < a.frames.length
    · rw [if_pos rfl, if_pos g, if_pos ⟨rfl, g⟩]; rfl
    · rw [if_pos rfl, if_neg g, if_neg (fun e => g e.2), List.getElem?_eq_none (by omega)]
  · rw [if_neg h, if_neg (fun e => h e.1)]
theorem setF_len (a : Ar) (i : Nat) (f : Frm) : (setF a i f).frames.length = a.frames.length := by simp [setF]
theorem setF_inv {a : Ar} (h : InvA a) (i : Nat) {f : Frm} (hf : holdsF f = true → f.dt.size = 64) : InvA (setF a i f) :=
  ⟨h.dev, fun g hg k => by
    rcases List.mem_or_eq_of_mem_set hg with h1 | rfl
    · exact h.data g h1 k
    · exact hf k⟩
theorem setF_kp {a : Ar} {i : Nat} {f : Frm} (hf : holdsF (getF a i) = true → holdsF f = true) : Kp a (setF a i f) :=
  ⟨setF_len _ _ _, fun j hj => by
    rw [getF_set]
    split
    · rename_i e; obtain ⟨rfl, _⟩ := e; exact hf hj
    · exact hj⟩
theorem getF_data {a : Ar} (h : InvA a) {i : Nat} (k : holdsF (getF a i) = true) : (getF a i).dt.size = 64 := h.data _ (getF_mem (hold_lt k)) k
theorem extent_size {x : Ext} (h : x.dt.size % 64 = 0) {sec : Int} (h0 : 0 ≤ sec) (h1 : sec < (secsE x : Nat)) : (x.dt.extract (64 * sec.toNat) (64 * (sec.toNat + 1))).size = 64 := by
  unfold secsE at h1
  rw [ByteArray.size_extract]
  omega
theorem lastW_mem {l : List Wt} {name : ByteArray} {sec : Int} {s : ByteArray} (h : lastW l name sec = some s) : ∃ w ∈ l, w.sec = sec ∧ w.nm = name ∧ w.dt = s := by
  unfold lastW at h
  cases hf : l.reverse.find? (fun w => decide (w.sec = sec) && decide (w.nm = name)) with
  | none => rw [hf] at h; cases h
  | some w =>
    rw [hf] at h
    have h1 := List.find?_some hf
    have h2 := List.mem_of_find?_eq_some hf
    simp only [Bool.and_eq_true, decide_eq_true_eq] at h1
    exact ⟨w, by simpa using h2, h1.1, h1.2, Option.some.inj h⟩
theorem readD_place {d : Dsk} {name : ByteArray} {sec : Int} : (readD d name sec).2 = (placeD d name sec).2 := by
  unfold readD
  split
  · rfl
  · rename_i h
    have h' : (placeD d name sec).2 = 0 := by simpa using h
    rw [h']
    split <;> rfl
theorem readD_size {d : Dsk} (h : Right d) {name : ByteArray} {sec : Int} (h0 : (readD d name sec).2 = 0) : (readD d name sec).1.size = 64 ∧ 0 < name.size := by
  rw [readD_place] at h0
  obtain ⟨x, hx, rfl, h1, h2⟩ := (placeD_iff h).1 h0
  refine ⟨?_, (namedB_pos (h.exts x hx).1).1⟩
  unfold readD
  rw [if_neg (by rw [h0]; simp)]
  split
  · rename_i s hs
    obtain ⟨w, hw, _, _, rfl⟩ := lastW_mem hs
    obtain ⟨_, _, _, _, _, g⟩ := h.waits w hw
    exact g
  · obtain ⟨i, hi⟩ := List.mem_iff_getElem?.1 hx
    have hp : (placeD d x.nm sec).1 = i := by
      unfold placeD
      rw [findI_at h.rise hi, hi]
      simp only [if_true]
      rw [if_neg (by omega)]
    rw [hp, hi]
    exact extent_size (h.exts x hx).2.2 h1 h2
theorem writeA_inv {a : Ar} (h : InvA a) (i : Nat) : InvA (writeA a i).1 := by
  have hb : InvA { a with dev := (writeD a.dev (getF a i).nm (getF a i).sec (getF a i).dt).1, writes := inc64 a.writes } := ⟨writeD_right h.dev _ _ _, h.data⟩
  unfold writeA
  simp only []
  split
  · exact setF_inv hb i fun k => getF_data h (i := i) k
  · exact hb
theorem writeA_kp (a : Ar) (i : Nat) : Kp a (writeA a i).1 := by
  unfold writeA
  simp only []
  split
  · exact ⟨by simp [setF], (setF_kp (a := { a with dev := (writeD a.dev (getF a i).nm (getF a i).sec (getF a i).dt).1, writes := inc64 a.writes }) (i := i) (f := { getF a i with dirty := false }) fun k => k).hold⟩
  · exact ⟨rfl, fun _ h => h⟩
theorem pickF_lt {fs : List Frm} : ∀ (l : List Frm) (i : Nat) (best : Option Nat), i + l.length = fs.length → (∀ b, best = some b → b < fs.length) → ∀ b, (pickF fs i best l).2 = some b → b < fs.length
  | [], i, best, _, h2, b, h => h2 b h
  | f :: r, i, best, h1, h2, b, h => by
    rw [List.length_cons] at h1
    rw [pickF] at h
    split at h
    · cases h; omega
    split at h
    · exact pickF_lt r (i + 1) best (by omega) h2 b h
    refine pickF_lt r (i + 1) _ (by omega) (fun c e => ?_) b h
    obtain rfl := Option.some.inj e
    cases best with
    | none => show i < _; omega
    | some d =>
      show (if f.tick < (fs.getD d zeroF).tick then i else d) < fs.length
      split
      · omega
      · exact h2 d rfl
theorem pickF_true {fs : List Frm} : ∀ (l : List Frm) (i : Nat) (best : Option Nat), (pickF fs i best l).1 = true → ∃ b, (pickF fs i best l).2 = some b
  | [], _, _, h => by cases h
  | f :: r, i, best, h => by
    rw [pickF] at h ⊢
    split at h
    · rename_i g; rw [if_pos g]; exact ⟨i, rfl⟩
    rename_i g
    rw [if_neg g]
    split at h
    · rename_i g2; rw [if_pos g2]; exact pickF_true r _ _ h
    rename_i g2
    rw [if_neg g2]
    exact pickF_true r _ _ h
/-- A frame that is taken: its number is one, and no frame but it has come to hold nothing. -/
theorem takeA_spec {a : Ar} (h : InvA a) : InvA (takeA a).1 ∧ (takeA a).1.frames.length = a.frames.length ∧
    ((takeA a).2.2 = 0 → (takeA a).2.1 < a.frames.length ∧ ∀ j, j ≠ (takeA a).2.1 → holdsF (getF a j) = true → holdsF (getF (takeA a).1 j) = true) ∧ ((takeA a).2.2 ≠ 0 → Kp a (takeA a).1) := by
  unfold takeA
  have hlt := pickF_lt (fs := a.frames) a.frames 0 none (by omega) (by simp)
  have htr := pickF_true (fs := a.frames) a.frames 0 none
  cases hp : pickF a.frames 0 none a.frames with
  | mk t o =>
    rw [hp] at hlt htr
    cases t with
    | true =>
      obtain ⟨b, hb⟩ := htr rfl
      simp only [] at hb
      subst hb
      exact ⟨⟨h.dev, h.data⟩, rfl, fun _ => ⟨hlt b rfl, fun j _ hj => hj⟩, fun e => absurd rfl e⟩
    | false =>
      cases o with
      | none => dsimp only; exact ⟨h, rfl, fun e => absurd e (by decide), fun _ => Kp.refl a⟩
      | some b =>
        have hb := hlt b rfl
        simp only []
        split
        · split
          · rename_i g1 g2
            exact ⟨writeA_inv h b, (writeA_kp a b).len, fun e => absurd e g2, fun _ => writeA_kp a b⟩
          · refine ⟨setF_inv (writeA_inv h b) b (by rw [zero_not]; simp), by rw [setF_len]; exact (writeA_kp a b).len, fun _ => ⟨hb, fun j hj hh => ?_⟩, fun e => absurd rfl e⟩
            rw [getF_set, if_neg (fun e => hj e.1.symm)]
            exact (writeA_kp a b).hold j hh
        · refine ⟨setF_inv h b (by rw [zero_not]; simp), setF_len _ _ _, fun _ => ⟨hb, fun j hj hh => ?_⟩, fun e => absurd rfl e⟩
          rw [getF_set, if_neg (fun e => hj e.1.symm)]
          exact hh
theorem pinAt_spec {a : Ar} (h : InvA a) {i : Nat} (hi : holdsF (getF a i) = true) : InvA (pinAt a i).1 ∧ Kp a (pinAt a i).1 ∧ ((pinAt a i).2.2 = 0 → (pinAt a i).2.1 = i ∧ holdsF (getF (pinAt a i).1 i) = true) := by
  unfold pinAt
  split
  · exact ⟨h, Kp.refl a, fun e => absurd (show (11 : Int) = 0 from e) (by decide)⟩
  · refine ⟨setF_inv (a := { a with tick := (a.tick + 1) % 18446744073709551616 }) ⟨h.dev, h.data⟩ i (f := { getF a i with tick := (a.tick + 1) % 18446744073709551616, pins := (getF a i).pins + 1 }) fun _ => getF_data h hi, ⟨by simp [setF], (setF_kp (a := { a with tick := (a.tick + 1) % 18446744073709551616 }) (i := i) (f := { getF a i with tick := (a.tick + 1) % 18446744073709551616, pins := (getF a i).pins + 1 }) fun k => k).hold⟩, fun _ => ⟨rfl, ?_⟩⟩
    rw [getF_set, if_pos ⟨rfl, hold_lt hi⟩]
    exact hi
theorem whereF_some {l : List Frm} {name : ByteArray} {sec : Int} {i : Nat} (h : whereF l name sec = some i) : ∃ f, l[i]? = some f ∧ holdsF f = true ∧ f.sec = sec ∧ f.nm = name := by
  unfold whereF at h
  obtain ⟨hlt, h1, _⟩ := List.findIdx?_eq_some_iff_getElem.1 h
  simp only [Bool.and_eq_true, decide_eq_true_eq] at h1
  exact ⟨l[i], List.getElem?_eq_getElem hlt, h1.1.1, h1.1.2, h1.2⟩
theorem getF_of {a : Ar} {i : Nat} {f : Frm} (h : a.frames[i]? = some f) : getF a i = f := by
  unfold getF; rw [List.getD_eq_getElem?_getD, h]; rfl
theorem pinA_spec {a : Ar} (h : InvA a) (name : ByteArray) (sec : Int) : InvA (pinA a name sec).1 ∧ Kp a (pinA a name sec).1 ∧ ((pinA a name sec).2.2 = 0 → (pinA a name sec).2.1 < a.frames.length ∧ holdsF (getF (pinA a name sec).1 (pinA a name sec).2.1) = true) := by
  unfold pinA
  split
  · rename_i i hi
    obtain ⟨f, h1, h2, _, _⟩ := whereF_some hi
    have hh : holdsF (getF a i) = true := by rw [getF_of h1]; exact h2
    obtain ⟨g1, g2, g3⟩ := pinAt_spec h hh
    exact ⟨g1, g2, fun e => by rw [(g3 e).1]; exact ⟨hold_lt hh, (g3 e).2⟩⟩
  · split
    · rename_i g; exact ⟨h, Kp.refl a, fun e => absurd e g⟩
    · rename_i g
      obtain ⟨t1, t2, t3, t4⟩ := takeA_spec h
      split
      · rename_i g2; exact ⟨t1, t4 g2, fun e => absurd e g2⟩
      · rename_i g2
        obtain ⟨u1, u2⟩ := t3 (by simpa using g2)
        obtain ⟨r1, r2⟩ := readD_size h.dev (by simpa using g)
        have hf : holdsF (⟨name, sec, (readD a.dev name sec).1, 0, false, 0, false⟩ : Frm) = true := by unfold holdsF; exact decide_eq_true r2
        have i1 : InvA (setF { (takeA a).1 with reads := inc64 (takeA a).1.reads } (takeA a).2.1 ⟨name, sec, (readD a.dev name sec).1, 0, false, 0, false⟩) := setF_inv (a := { (takeA a).1 with reads := inc64 (takeA a).1.reads }) ⟨t1.dev, t1.data⟩ _ (f := ⟨name, sec, (readD a.dev name sec).1, 0, false, 0, false⟩) fun _ => r1
        have i2 : holdsF (getF (setF { (takeA a).1 with reads := inc64 (takeA a).1.reads } (takeA a).2.1 ⟨name, sec, (readD a.dev name sec).1, 0, false, 0, false⟩) (takeA a).2.1) = true := by
          rw [getF_set, if_pos ⟨rfl, by show _ < (takeA a).1.frames.length; omega⟩]; exact hf
        have i3 : Kp a (setF { (takeA a).1 with reads := inc64 (takeA a).1.reads } (takeA a).2.1 ⟨name, sec, (readD a.dev name sec).1, 0, false, 0, false⟩) := ⟨by rw [setF_len]; exact t2, fun j hj => by
          rw [getF_set]
          split
          · exact hf
          · rename_i k
            by_cases e : (takeA a).2.1 = j
            · exact absurd ⟨e, by show _ < (takeA a).1.frames.length; omega⟩ k
            · exact u2 j (fun e' => e e'.symm) hj⟩
        obtain ⟨g1, g3, g4⟩ := pinAt_spec i1 i2
        exact ⟨g1, i3.trans g3, fun e => by rw [(g4 e).1]; exact ⟨u1, (g4 e).2⟩⟩
theorem unpinA_spec {a : Ar} (h : InvA a) (i : Int) : InvA (unpinA a i).1 ∧ Kp a (unpinA a i).1 := by
  unfold unpinA
  split
  · exact ⟨h, Kp.refl a⟩
  split
  · exact ⟨h, Kp.refl a⟩
  · exact ⟨setF_inv h _ fun k => getF_data h (i := i.toNat) k, setF_kp fun k => k⟩
theorem fillA_spec {a : Ar} (h : InvA a) {i at_ : Nat} {data : ByteArray} (hi : holdsF (getF a i) = true) (hf : at_ + data.size ≤ 64) : InvA (fillA a i at_ data) ∧ Kp a (fillA a i at_ data) := by
  unfold fillA
  have hz := getF_data h hi
  exact ⟨setF_inv h i fun _ => by show (lay _ _ _).size = 64; rw [lay_size (by omega)]; exact hz, setF_kp fun k => k⟩
theorem flushF_spec : ∀ (n i : Nat) {a : Ar}, InvA a → InvA (flushF n i a).1 ∧ Kp a (flushF n i a).1
  | 0, _, a, h => ⟨h, Kp.refl a⟩
  | n + 1, i, a, h => by
    rw [flushF]
    split
    · split
      · exact ⟨writeA_inv h i, writeA_kp a i⟩
      · have := flushF_spec n (i + 1) (writeA_inv h i)
        exact ⟨this.1, (writeA_kp a i).trans this.2⟩
    · exact flushF_spec n (i + 1) h
theorem flushA_spec {a : Ar} (h : InvA a) : InvA (flushA a).1 ∧ Kp a (flushA a).1 := by
  have g := flushF_spec a.frames.length 0 h
  unfold flushA
  split
  · exact g
  · exact ⟨⟨settleD_right g.1.dev _, g.1.data⟩, ⟨g.2.len, g.2.hold⟩⟩
theorem dropA_inv {a : Ar} (h : InvA a) (name : ByteArray) : InvA (dropA a name).1 := by
  unfold dropA
  split
  · exact h
  · refine ⟨h.dev, fun f hf k => ?_⟩
    obtain ⟨g, hg, rfl⟩ := List.mem_map.1 hf
    split at k
    · rw [zero_not] at k; cases k
    · rename_i e; rw [if_neg e]; exact h.data g hg k
end Go.Proofs.YtmopegpkoedgbaaGreatDoor
/- What a pool shows of a disk, plainly: the view of a sector is the frame's that holds it, else the disk's; pins, evictions and flushes leave it. -/
namespace Go.Proofs.YtmopegpkoedgbaaGreatDoor
open Go.RowKit

/-- A pool at work on a disk with power without end. -/
structure Pool (a : Ar) : Prop where
  inv : InvA a
  fuse : a.dev.fuse = -1
  power : a.dev.down = false
  uniq : ∀ i j, holdsF (getF a i) = true → holdsF (getF a j) = true → (getF a i).nm = (getF a j).nm → (getF a i).sec = (getF a j).sec → i = j
  placed : ∀ i, holdsF (getF a i) = true → (placeD a.dev (getF a i).nm (getF a i).sec).2 = 0
  clean : ∀ i, holdsF (getF a i) = true → (getF a i).dirty = false → (getF a i).dt = (readD a.dev (getF a i).nm (getF a i).sec).1
  calm : ∀ i, holdsF (getF a i) = false → (getF a i).dirty = false
def view (a : Ar) (name : ByteArray) (sec : Int) : ByteArray :=
  match whereF a.frames name sec with
  | some i => (getF a i).dt
  | none => (readD a.dev name sec).1
/-! ### What a write makes of what is read -/
end Go.Proofs.YtmopegpkoedgbaaGreatDoor
/- What a pool shows of a disk, plainly: writes of frames, frames that are taken, pins. -/
namespace Go.Proofs.YtmopegpkoedgbaaGreatDoor
open Go.RowKit

def dirtyN (a : Ar) : Nat := (a.frames.filter (·.dirty)).length
/-- Writes that wait, and those that are to come. -/
def debt (a : Ar) : Nat := a.dev.waits.length + dirtyN a
end Go.Proofs.YtmopegpkoedgbaaGreatDoor
/- What a pool shows of a disk, plainly: who has pinned what; a sector is pinned. -/
namespace Go.Proofs.YtmopegpkoedgbaaGreatDoor
open Go.RowKit

/-- The frames that are pinned, each as often as it is. -/
def Pinned (a : Ar) (us : List Nat) : Prop := ∀ i, (getF a i).pins = (us.count i : Nat)
def Frees (a : Ar) : Prop := ∀ i, holdsF (getF a i) = false → getF a i = zeroF
end Go.Proofs.YtmopegpkoedgbaaGreatDoor
/- What a pool shows of a disk, plainly: a pin is taken back, a pinned frame is filled; one byte of a file's body. -/
namespace Go.Proofs.YtmopegpkoedgbaaGreatDoor
open Go.RowKit

/-- One byte of a file's body, as the pool shows it. -/
def bv (a : Ar) (name : ByteArray) (p : Nat) : Nat := byt (view a name ((1 + p / 64 : Nat) : Int)) (p % 64)
end Go.Proofs.YtmopegpkoedgbaaGreatDoor
/- What a pool shows of a disk, plainly: all that a pin does, in one. -/
namespace Go.Proofs.YtmopegpkoedgbaaGreatDoor
open Go.RowKit

structure PinOK (a : Ar) (us : List Nat) (name : ByteArray) (sec : Int) (b : Ar) (i : Nat) : Prop where
  pool : Pool b
  frees : Frees b
  pinned : Pinned b (i :: us)
  view : ∀ n s, view b n s = view a n s
  exts : b.dev.exts = a.dev.exts
  debt : debt b = debt a
  len : b.frames.length = a.frames.length
  hold : holdsF (getF b i) = true
  nm : (getF b i).nm = name
  sc : (getF b i).sec = sec
  kept : ∀ j, 0 < us.count j → (getF b j).nm = (getF a j).nm ∧ (getF b j).sec = (getF a j).sec ∧ (getF b j).dirty = (getF a j).dirty
  keys : ∀ j, holdsF (getF b j) = true → ((getF b j).nm = name ∧ (getF b j).sec = sec) ∨ (holdsF (getF a j) = true ∧ (getF b j).nm = (getF a j).nm ∧ (getF b j).sec = (getF a j).sec)
  fresh : (∀ j, holdsF (getF a j) = true → ¬ ((getF a j).nm = name ∧ (getF a j).sec = sec)) → (getF b i).dirty = false
/-! ### A reader -/
/-- What a reader has pinned is the sector that it says. -/
def HeldR (a : Ar) (r : Rdr) : Prop := 0 < r.held → holdsF (getF a r.frame) = true ∧ (getF a r.frame).nm = r.name ∧ (getF a r.frame).sec = (r.held : Nat)
/-- The frames that are pinned: a reader's, and others. -/
def usR (r : Rdr) (vs : List Nat) : List Nat := if 0 < r.held then r.frame :: vs else vs
/-- A pool that shows the same, with the same frames pinned for others. -/
structure Alike (a : Ar) (vs : List Nat) (b : Ar) : Prop where
  pool : Pool b
  frees : Frees b
  view : ∀ n s, view b n s = view a n s
  exts : b.dev.exts = a.dev.exts
  debt : debt b = debt a
  len : b.frames.length = a.frames.length
  kept : ∀ j, 0 < vs.count j → (getF b j).nm = (getF a j).nm ∧ (getF b j).sec = (getF a j).sec ∧ (getF b j).dirty = (getF a j).dirty
end Go.Proofs.YtmopegpkoedgbaaGreatDoor
/- A reader under a pool, plainly: the bytes that it tells are the file's body, one by one; a record. -/
namespace Go.Proofs.YtmopegpkoedgbaaGreatDoor
open Go.RowKit

theorem bytes_app (a b : ByteArray) : strL (a ++ b) = strL a ++ strL b := by
  have hm : ∀ s : ByteArray, strL s = s.data.toList.map UInt8.toNat := fun s => by
    apply List.ext_getElem?
    intro i
    rw [List.getElem?_map]
    rcases Nat.lt_or_ge i s.size with g | g
    · rw [strL_get g, ← byt_of s g]
      have : s.data.toList[i]? = some (s[i]'g) := by rw [Array.getElem?_toList]; exact Array.getElem?_eq_getElem g
      rw [this]; rfl
    · have h1 : s.data.toList.length = s.size := by rw [Array.length_toList]; rfl
      rw [List.getElem?_eq_none (by rw [strL_length]; exact g), List.getElem?_eq_none (by omega)]; rfl
  rw [hm, hm, hm, ← List.map_append]
  congr 1
theorem bytes_sub (s : ByteArray) (i j : Nat) : strL (s.extract i j) = ((strL s).take j).drop i := by
  apply List.ext_getElem?
  intro k
  rw [List.getElem?_drop]
  have hsz : (s.extract i j).size = min j s.size - i := ByteArray.size_extract
  rcases Nat.lt_or_ge k (min j s.size - i) with g | g
  · rw [strL_get (by omega), List.getElem?_take_of_lt (by omega), strL_get (by omega)]
    congr 1
    rw [← byt_of _ (by omega), ← byt_of s (k := i + k) (by omega), ByteArray.getElem_extract]
  · rw [List.getElem?_eq_none (by rw [strL_length]; omega), List.getElem?_eq_none (by rw [List.length_take, strL_length]; omega)]
/-- A part of a text, byte by byte. -/
theorem bytes_part {s : ByteArray} {i k : Nat} (h : i + k ≤ s.size) : strL (s.extract i (i + k)) = (List.range k).map fun c => byt s (i + c) := by
  rw [bytes_sub]
  apply List.ext_getElem?
  intro c
  rw [List.getElem?_drop, List.getElem?_map]
  rcases Nat.lt_or_ge c k with g | g
  · rw [List.getElem?_take_of_lt (by omega), strL_get (by omega), List.getElem?_range g]; rfl
  · rw [List.getElem?_eq_none (by rw [List.length_take, strL_length]; omega), List.getElem?_eq_none (by simp; omega)]; rfl
/-- Frames that have come are of one file. -/
def Come (a : Ar) (name : ByteArray) (b : Ar) : Prop := ∀ j, holdsF (getF b j) = true → (getF b j).nm = name ∨ (holdsF (getF a j) = true ∧ (getF b j).nm = (getF a j).nm ∧ (getF b j).sec = (getF a j).sec)
/-- A reader that has gone on by so many bytes. -/
structure Gone (a : Ar) (r : Rdr) (vs : List Nat) (n : Nat) (b : Ar) (q : Rdr) : Prop where
  alike : Alike a vs b
  pinned : Pinned b (usR q vs)
  held : HeldR b q
  same : q = { r with at_ := r.at_ + n, frame := q.frame, held := q.held }
  come : Come a r.name b
end Go.Proofs.YtmopegpkoedgbaaGreatDoor
/- A writer under a pool, plainly: the bytes that it is given are the file's body, one by one; of each sector that it comes to one write more is to come. -/
namespace Go.Proofs.YtmopegpkoedgbaaGreatDoor
open Go.RowKit

theorem lay_byt {b s : ByteArray} {k : Nat} (h : k + s.size ≤ b.size) (q : Nat) : byt (lay b k s) q = if k ≤ q ∧ q < k + s.size then byt s (q - k) else byt b q := by
  have hz := lay_size h
  have hl : strL (lay b k s) = (strL b).take k ++ strL s ++ (strL b).drop (k + s.size) := by
    unfold lay
    rw [bytes_app, bytes_app, bytes_sub, bytes_sub, List.drop_zero, List.take_of_length_le (l := strL b) (i := b.size) (by rw [strL_length]; omega)]
  have hb : ∀ (t : ByteArray) (q : Nat), byt t q = (strL t).getD q 0 := fun t q => by
    rcases Nat.lt_or_ge q t.size with g | g
    · rw [List.getD_eq_getElem?_getD, strL_get g]; rfl
    · rw [List.getD_eq_getElem?_getD, List.getElem?_eq_none (by rw [strL_length]; exact g)]
      unfold byt; rw [dif_neg (by omega)]; rfl
  rw [hb, hb, hb, hl, List.getD_eq_getElem?_getD, List.getD_eq_getElem?_getD, List.getD_eq_getElem?_getD, List.append_assoc]
  have h1 : ((strL b).take k).length = k := by rw [List.length_take, strL_length]; omega
  congr 1
  by_cases g1 : q < k
  · rw [List.getElem?_append_left (by omega), List.getElem?_take_of_lt g1, if_neg (by omega)]
  · rw [List.getElem?_append_right (by omega), h1]
    by_cases g2 : q < k + s.size
    · rw [List.getElem?_append_left (by rw [strL_length]; omega), if_pos ⟨by omega, g2⟩]
    · rw [List.getElem?_append_right (by rw [strL_length]; omega), if_neg (fun e => g2 e.2), List.getElem?_drop, strL_length]
      have e : k + s.size + (q - k - s.size) = q := by omega
      rw [e]
def usW (x : Wtr) (vs : List Nat) : List Nat := if 0 < x.held then x.frame :: vs else vs
/-- A writer at work. -/
structure WtI (a : Ar) (x : Wtr) (vs : List Nat) : Prop where
  pinned : Pinned a (usW x vs)
  held : 0 < x.held → holdsF (getF a x.frame) = true ∧ (getF a x.frame).nm = x.name ∧ (getF a x.frame).sec = (x.held : Nat) ∧ (getF a x.frame).dirty = true ∧ x.held = (x.at_ + 63) / 64 ∧ 0 < x.at_
  none : x.held = 0 → x.at_ = 0
  new : ∀ i, holdsF (getF a i) = true → (getF a i).nm = x.name → (getF a i).sec ≤ (((x.at_ + 63) / 64 : Nat) : Int)
/-- A writer that has gone on by some bytes. -/
structure Wrote (a : Ar) (x : Wtr) (vs : List Nat) (s : List Nat) (b : Ar) (y : Wtr) : Prop where
  pool : Pool b
  frees : Frees b
  exts : b.dev.exts = a.dev.exts
  len : b.frames.length = a.frames.length
  kept : ∀ j, 0 < vs.count j → (getF b j).nm = (getF a j).nm ∧ (getF b j).sec = (getF a j).sec ∧ (getF b j).dirty = (getF a j).dirty
  debt : debt b = debt a + ((x.at_ + s.length + 63) / 64 - (x.at_ + 63) / 64)
  other : ∀ n s, n ≠ x.name → view b n s = view a n s
  bytes : ∀ p, bv b x.name p = if x.at_ ≤ p ∧ p < x.at_ + s.length then s.getD (p - x.at_) 0 else bv a x.name p
  head : view b x.name 0 = view a x.name 0
  wt : WtI b y vs
  same : y = { x with at_ := x.at_ + s.length, frame := y.frame, held := y.held }
  come : Come a x.name b
end Go.Proofs.YtmopegpkoedgbaaGreatDoor
/- What lives10 asks, plainly: the kernel decides it. No program in sight but for the walked words. -/
namespace Go.Proofs.YtmopegpkoedgbaaGreatDoor
open Go.RowKit

def nA : ByteArray := ⟨#[97]⟩
def nB : ByteArray := ⟨#[98]⟩
def nC : ByteArray := ⟨#[99]⟩
def nX : ByteArray := ⟨#[120]⟩
def lx0 : Dsk := (makeD 30).1
def lx1 : Dsk := (writeR lx0 nA 1 [[1], [5]]).1
def lx2 : Dsk := (writeR lx1 nB 1 [[2], [5]]).1
def lx3 : Dsk := (writeR lx2 nC 1 [[2], [1]]).1
def lxM : Dsk × Cst × Int := mergeA lx3 24 nX [nA, nB]
def lx4 : Dsk := lxM.1
theorem lx_make : (makeD 30).2 = 0 := by decide +kernel
theorem lx_w1 : (writeR lx0 nA 1 [[1], [5]]).2 = 0 := by decide +kernel
theorem lx_w2 : (writeR lx1 nB 1 [[2], [5]]).2 = 0 := by decide +kernel
theorem lx_w3 : (writeR lx2 nC 1 [[2], [1]]).2 = 0 := by decide +kernel
theorem lx_m : lxM.2.2 = 0 ∧ 0 < lxM.2.1.frames := by decide +kernel
theorem lx_r : readR lx4 nX = (1, [[1], [2], [5], [5]], 0) := by decide +kernel
theorem lx_n : (mergeA lx3 24 nX [nA, nC]).2.2 = 12 := by decide +kernel
theorem lx_sC : (sortedA lx3 24 nC).1 = 1 ∧ (sortedA lx3 24 nC).2.1 = false ∧ (sortedA lx3 24 nC).2.2.2 = 0 := by decide +kernel
theorem lx_sA : (sortedA lx3 24 nA).1 = 2 ∧ (sortedA lx3 24 nA).2.1 = true ∧ (sortedA lx3 24 nA).2.2.2 = 0 := by decide +kernel
theorem lx_p : passW 24 19 = (2, 0) := by decide +kernel
theorem lx_f : fanW 24 = (18, 0) := by decide +kernel
theorem lx_g : fanW 23 = (0, 9) := by decide +kernel
theorem lx_r0 : Right lx0 := checkB_iff.1 (by decide +kernel)
theorem lx_r1 : Right lx1 := checkB_iff.1 (by decide +kernel)
theorem lx_r2 : Right lx2 := checkB_iff.1 (by decide +kernel)
theorem lx_r3 : Right lx3 := checkB_iff.1 (by decide +kernel)
theorem lx_r4 : Right lx4 := checkB_iff.1 (by decide +kernel)
end Go.Proofs.YtmopegpkoedgbaaGreatDoor
