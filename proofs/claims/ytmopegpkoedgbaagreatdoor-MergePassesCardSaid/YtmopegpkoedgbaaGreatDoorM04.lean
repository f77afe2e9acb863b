/- Lemmas for the row: DskA, DskB, DskC, DskW, DskE, LosD. -/
import Derived.Test.YtmopegpkoedgbaaGreatDoorM02
import Derived.Test.YtmopegpkoedgbaaGreatDoorM03
import Derived.Laws.Cover1
set_option linter.unusedVariables false
set_option linter.unusedSimpArgs false
/- Walks: cmp.Compare at texts; disk.find's and disk.named's closures; disk.sectors. -/
namespace Go.Proofs.YtmopegpkoedgbaaGreatDoor
open Go.RowKit

/-- A comparison of two texts. -/
def cmpI (a b : ByteArray) : Int := if sless a b then -1 else if a = b then 0 else 1
theorem isNaN_str (s : ByteArray) (w : World) : Calls Tryz.prog 210 #[.string s] w fun e w' => e = .returned (.bool false) ∧ w' = w := by
  go_enter Tryz.func210, Tryz.ntmps210
  go_wp2_with fail
  go_ret
  exact ⟨by simp, rfl⟩
theorem cmp_str (a b : ByteArray) (w : World) : Calls Tryz.prog 186 #[.string a, .string b] w fun e w' => e = .returned (.int .i64 (cmpI a b)) ∧ w' = w := by
  have n1 := fun (s : ByteArray) (W : World) => isNaN_str s W
  have HN := hide n1
  clear n1
  obtain ⟨l, hl⟩ : ∃ l, l = Op.bytesLess a.toList b.toList := ⟨_, rfl⟩
  obtain ⟨q, hq⟩ : ∃ q, q = (a.toList == b.toList) := ⟨_, rfl⟩
  have hc : cmpI a b = if l then -1 else if q then 0 else 1 := by
    unfold cmpI sless
    rw [← hl]
    by_cases h : a = b
    · subst h; rw [if_pos rfl, hq]; simp
    · have : ¬ a.toList = b.toList := fun e => h (toList_inj' e)
      rw [if_neg h, hq]; simp [this]
  rw [hc]
  have HL := hide hl.symm
  have HQ := hide hq.symm
  have hl' := HL.out
  have hq' := HQ.out
  clear hl hq hc
  cases l <;> cases q <;> (
    go_enter Tryz.func186, Tryz.ntmps186
    go_wp2_with (go_at_call 210; refine (HN.out _ _).mono ?_; rintro e w1 ⟨rfl, rfl⟩)
    go_ret
    exact ⟨rfl, rfl⟩)
theorem isEmpty_str (s : ByteArray) : s.toList.isEmpty = decide (s.size = 0) := by
  rw [Lib.toList_data]
  have h : s.data.toList.length = s.size := by rw [Array.length_toList]; rfl
  cases hd : s.data.toList with
  | nil =>
    rw [hd] at h
    have h0 : s.size = 0 := h.symm
    exact (decide_eq_true h0).symm
  | cons a l =>
    rw [hd, List.length_cons] at h
    have h0 : ¬ s.size = 0 := by omega
    exact (decide_eq_false h0).symm
theorem named1_any (s : ByteArray) (w : World) : Calls Tryz.prog 188 #[.string s] w fun e w' => e = .returned (.bool (!namedB s)) ∧ w' = w := by
  have he := isEmpty_str s
  by_cases h0 : s.size = 0
  · have h1 : s.toList.isEmpty = true := by rw [he]; simp [h0]
    have hn : namedB s = false := by unfold namedB; simp [h0]
    rw [hn]
    clear he h0 hn
    go_enter Tryz.func188, Tryz.ntmps188
    go_wp2_with fail
    go_ret
    exact ⟨rfl, rfl⟩
  · have h1 : s.toList.isEmpty = false := by rw [he]; simp [h0]
    by_cases h2 : (16 : Int) < (s.size : Int)
    · have hn : namedB s = false := by unfold namedB; have : ¬ s.size ≤ 16 := by omega
                                       simp [this]
      rw [hn]
      clear he h0 hn
      go_enter Tryz.func188, Tryz.ntmps188
      go_wp2_with fail
      go_ret
      exact ⟨rfl, rfl⟩
    · have hn : namedB s = true := by unfold namedB; have h3 : 0 < s.size := by omega
                                      have h4 : s.size ≤ 16 := by omega
                                      simp [h3, h4]
      rw [hn]
      clear he h0 hn
      go_enter Tryz.func188, Tryz.ntmps188
      go_wp2_with fail
      go_ret
      exact ⟨rfl, rfl⟩
def extV (x : Ext) : Value := .agg #[.string x.nm, .string x.dt]
theorem find1_any (x : Ext) (s : ByteArray) (w : World) : Calls Tryz.prog 185 #[extV x, .string s] w fun e w' => e = .returned (.int .i64 (cmpI x.nm s)) ∧ Below w.heap.size w w' := by
  obtain ⟨n, t⟩ := x
  have c1 := fun (W : World) => cmp_str n s W
  have HC := hide c1
  clear c1
  unfold extV
  go_enter Tryz.func185, Tryz.ntmps185
  go_wp2_with (go_at_call 186; refine (HC.out _).mono ?_; rintro e w1 ⟨rfl, rfl⟩)
  go_ret
  exact ⟨rfl, (Below.refl _ _).alloc (Nat.le_refl _) _⟩
theorem sectors_any (x : Ext) (w : World) (hx : x.dt.size ≤ 9223372036854775807) : Calls Tryz.prog 157 #[extV x] w fun e w' => e = .returned (.int .i64 (secsE x : Nat)) ∧ Below w.heap.size w w' := by
  obtain ⟨n, t⟩ := x
  have hw : wrap64 ((t.size : Int) / 64) = (t.size : Int) / 64 := by
    have : t.size ≤ 9223372036854775807 := hx
    unfold wrap64; omega
  unfold extV secsE
  go_enter Tryz.func157, Tryz.ntmps157
  go_wp2_with fail
  go_ret
  refine ⟨?_, (Below.refl _ _).alloc (Nat.le_refl _) _⟩
  simp
end Go.Proofs.YtmopegpkoedgbaaGreatDoor
/- Walks: slices.IndexFunc and ContainsFunc at texts under disk.named's closure; disk.named. -/
namespace Go.Proofs.YtmopegpkoedgbaaGreatDoor
open Go.RowKit

theorem findIdx_step {α : Type} {p : α → Bool} {l : List α} {k : Nat} {x : α} (h : ∀ j y, j < k → l[j]? = some y → p y = false) (hx : l[k]? = some x) (hp : p x = false) : ∀ j y, j < k + 1 → l[j]? = some y → p y = false := fun j y hj hy => by
  rcases Nat.lt_or_ge j k with g | g
  · exact h j y g hy
  · obtain rfl : j = k := by omega
    rw [hx] at hy
    obtain rfl := Option.some.inj hy
    exact hp
/-- The first place where a test holds, as Go tells it. -/
def idxI {α : Type} (p : α → Bool) (l : List α) : Int := match l.findIdx? p with | some i => (i : Nat) | none => -1
theorem idxI_at {α : Type} {p : α → Bool} {l : List α} {k : Nat} {x : α} (h : ∀ j y, j < k → l[j]? = some y → p y = false) (hx : l[k]? = some x) (hp : p x = true) : idxI p l = (k : Nat) := by
  have : l.findIdx? p = some k := by
    rw [List.findIdx?_eq_some_iff_getElem]
    obtain ⟨hk, e⟩ := List.getElem?_eq_some_iff.1 hx
    refine ⟨hk, by rw [e]; exact hp, fun j hj => ?_⟩
    rw [h j _ hj (List.getElem?_eq_getElem (by omega))]; simp
  unfold idxI; rw [this]
theorem idxI_none {α : Type} {p : α → Bool} {l : List α} (h : ∀ j y, j < l.length → l[j]? = some y → p y = false) : idxI p l = -1 := by
  have : l.findIdx? p = none := by
    rw [List.findIdx?_eq_none_iff]
    intro x hx
    obtain ⟨j, hj⟩ := List.mem_iff_getElem?.1 hx
    exact h j x (List.getElem?_eq_some_iff.1 hj).1 hj
  unfold idxI; rw [this]
set_option maxHeartbeats 2000000 in
theorem index_named (A : Option Addr) (c : Nat) (xs : List ByteArray) (w : World) (hr : Rd w w.heap.size A (xs.map .string)) (hl : xs.length ≤ 1000000000) :
    Calls Tryz.prog 211 #[.slice A xs.length c, .func (.func 188) #[] #[]] w fun e w' => e = .returned (.int .i64 (idxI (fun s => !namedB s) xs)) ∧ Below w.heap.size w w' := by
  have hn := fun (s : ByteArray) (W : World) => named1_any s W
  have HN := hide hn
  have HR := hide hr
  clear hn hr
  go_enter Tryz.func211, Tryz.ntmps211
  go_wp2_with fail
  go_loopw [8] (fun i wr => ∃ k : Nat, i = .int .i64 k ∧ k ≤ xs.length ∧ wr = w ∧ Hid (∀ j y, j < k → xs[j]? = some y → (!namedB y) = false)) (fun i _ => xs.length - (intOf i).toNat)
  case atStart => exact ⟨0, rfl, by omega, rfl, hide (fun j y hj => by omega)⟩
  case round =>
    obtain ⟨k, rfl, hk, rfl, hinv⟩ := hrel
    by_cases hlt : k < xs.length
    · obtain ⟨x, hx⟩ : ∃ x, xs[k]? = some x := ⟨xs[k], by simp [hlt]⟩
      obtain ⟨b, o, rfl, _, hc⟩ := HR.out k (.string x) (by rw [List.getElem?_map, hx]; rfl)
      obtain ⟨t, ht⟩ : ∃ t, t = (!namedB x) := ⟨_, rfl⟩
      have ht1 := fun (W : World) => HN.out x W
      rw [← ht] at ht1
      have HT := hide ht1
      have HTe := hide ht
      have HX := hide hx
      clear ht1 ht hx
      cases t with
      | true =>
        go_wp2_with (go_at_call 188; refine (HT.out _).mono ?_; rintro e w1 ⟨rfl, rfl⟩)
        go_ret
        exact ⟨by rw [idxI_at hinv.out HX.out HTe.out.symm]; rfl, Below.refl _ _⟩
      | false =>
        go_wp2_with (go_at_call 188; refine (HT.out _).mono ?_; rintro e w1 ⟨rfl, rfl⟩)
        exact ⟨⟨k + 1, by simp, by omega, trivial, hide (findIdx_step hinv.out HX.out HTe.out.symm)⟩, by simp [intOf]; omega⟩
    · obtain rfl : k = xs.length := by omega
      go_wp2_with fail
      go_ret
      exact ⟨by rw [idxI_none hinv.out]; rfl, Below.refl _ _⟩
theorem contains_named (A : Option Addr) (c : Nat) (xs : List ByteArray) (w : World) (hr : Rd w w.heap.size A (xs.map .string)) (hl : xs.length ≤ 1000000000) :
    Calls Tryz.prog 187 #[.slice A xs.length c, .func (.func 188) #[] #[]] w fun e w' => e = .returned (.bool (!xs.all namedB)) ∧ Below w.heap.size w w' := by
  have hi := index_named A c xs w hr hl
  have hb : (decide ((0 : Int) ≤ idxI (fun s => !namedB s) xs)) = !xs.all namedB := by
    unfold idxI
    cases h : xs.findIdx? (fun s => !namedB s) with
    | none =>
      rw [List.findIdx?_eq_none_iff] at h
      have : xs.all namedB = true := List.all_eq_true.2 fun x hx => by simpa using h x hx
      rw [this]; rfl
    | some i =>
      obtain ⟨hk, h1, _⟩ := List.findIdx?_eq_some_iff_getElem.1 h
      have : xs.all namedB = false := by
        cases k : xs.all namedB with
        | false => rfl
        | true =>
          have := List.all_eq_true.1 k xs[i] (List.getElem_mem hk)
          rw [this] at h1; cases h1
      rw [this]
      show decide ((0 : Int) ≤ (i : Int)) = true
      exact decide_eq_true (by omega)
  obtain ⟨z, hz⟩ : ∃ z, z = idxI (fun s => !namedB s) xs := ⟨_, rfl⟩
  rw [← hz] at hi hb
  have HI := hide hi
  have HB := hide hb
  clear hi hb hz
  go_enter Tryz.func187, Tryz.ntmps187
  go_wp2_with (go_at_call 211; refine (HI.out).mono ?_; rintro e w1 ⟨rfl, hb1⟩)
  go_ret
  exact ⟨by rw [← HB.out]; rfl, hb1⟩
theorem named_any (A : Option Addr) (c : Nat) (xs : List ByteArray) (w : World) (hr : Rd w w.heap.size A (xs.map .string)) (hl : xs.length ≤ 1000000000) :
    Calls Tryz.prog 150 #[.slice A xs.length c] w fun e w' => e = .returned (.bool (xs.all namedB)) ∧ Below w.heap.size w w' := by
  have hi := contains_named A c xs w hr hl
  have HI := hide hi
  clear hi hr
  go_enter Tryz.func150, Tryz.ntmps150
  go_wp2_with (go_at_call 187; refine (HI.out).mono ?_; rintro e w1 ⟨rfl, hb1⟩)
  go_ret
  exact ⟨by simp, hb1⟩
end Go.Proofs.YtmopegpkoedgbaaGreatDoor
/- Walk: slices.BinarySearchFunc at extents; disk.find. -/
namespace Go.Proofs.YtmopegpkoedgbaaGreatDoor
open Go.RowKit

def flatE (l : List Ext) : List Value := l.flatMap fun x => [.string x.nm, .string x.dt]
theorem flatE_get : ∀ {l : List Ext} {k : Nat} {x : Ext}, l[k]? = some x → (flatE l)[2 * k]? = some (.string x.nm) ∧ (flatE l)[2 * k + 1]? = some (.string x.dt) := by
  intro l
  induction l with
  | nil => intro k x h; cases h
  | cons y l ih =>
    intro k x h
    cases k with
    | zero => cases h; exact ⟨rfl, rfl⟩
    | succ k =>
      have := ih (k := k) (x := x) (by simpa using h)
      have e : flatE (y :: l) = .string y.nm :: .string y.dt :: flatE l := rfl
      have e1 : 2 * (k + 1) = 2 * k + 1 + 1 := by omega
      rw [e, e1]
      exact ⟨this.1, this.2⟩
/-- The cells of an extent in a list. -/
theorem ext_cells {w : World} {B : Nat} {A : Option Addr} {l : List Ext} (hr : Rd w B A (flatE l)) {k : Nat} {x : Ext} (hx : l[k]? = some x) : ∃ b o, A = some ⟨b, o, none⟩ ∧ b < B ∧ w.cell? ⟨b, o + k * 2, none⟩ = some (.string x.nm) ∧ w.cell? ⟨b, o + k * 2 + 1, none⟩ = some (.string x.dt) := by
  obtain ⟨h1, h2⟩ := flatE_get hx
  obtain ⟨b, o, rfl, hb, hc⟩ := hr _ _ h1
  obtain ⟨b2, o2, e, _, hc2⟩ := hr _ _ h2
  simp only [Option.some.injEq, Addr.mk.injEq, and_true] at e
  obtain ⟨rfl, rfl⟩ := e
  refine ⟨b, o, rfl, hb, ?_, ?_⟩
  · rwa [show o + 2 * k = o + k * 2 by omega] at hc
  · rwa [show o + (2 * k + 1) = o + k * 2 + 1 by omega] at hc2
theorem cmpI_neg {a b : ByteArray} : cmpI a b < 0 ↔ sless a b = true := by
  unfold cmpI
  cases h : sless a b with
  | true => simp
  | false => simp; split <;> omega
theorem cmpI_zero {a b : ByteArray} : cmpI a b = 0 ↔ a = b := by
  unfold cmpI
  cases h : sless a b with
  | true => simp; exact sless_ne h
  | false => simp
theorem bsE_left {l : List Ext} {s : ByteArray} {f p q h : Nat} {x : Ext} {r : Nat} (hf : q - p < f ∧ bsE l s f p q = r) (hlt : p < q) (hh : h = (p + q) / 2) (hx : l[h]? = some x) : (sless x.nm s = true → q - (h + 1) < f - 1 ∧ bsE l s (f - 1) (h + 1) q = r) ∧ (sless x.nm s = false → h - p < f - 1 ∧ bsE l s (f - 1) p h = r) := by
  obtain ⟨g, rfl⟩ : ∃ g, f = g + 1 := ⟨f - 1, by omega⟩
  have h2 := hf.2
  rw [bsE, if_pos hlt, ← hh, hx] at h2
  simp only [] at h2
  constructor
  · intro e; rw [if_pos e] at h2; exact ⟨by omega, h2⟩
  · intro e; rw [if_neg (by rw [e]; simp)] at h2; exact ⟨by omega, h2⟩
theorem bsE_stop {l : List Ext} {s : ByteArray} {f p q r : Nat} (hf : q - p < f ∧ bsE l s f p q = r) (hlt : ¬ p < q) : p = r := by
  obtain ⟨g, rfl⟩ : ∃ g, f = g + 1 := ⟨f - 1, by omega⟩
  have h2 := hf.2
  rw [bsE, if_neg hlt] at h2
  exact h2
set_option maxHeartbeats 4000000 in
set_option maxRecDepth 100000 in
theorem bsearch_ext (A : Option Addr) (c : Nat) (l : List Ext) (s : ByteArray) (w : World) (hr : Rd w w.heap.size A (flatE l)) (hl : l.length ≤ 1000000000) :
    Calls Tryz.prog 184 #[.slice A l.length c, .string s, .func (.func 185) #[] #[]] w fun e w' => e = .returned (.tuple #[.int .i64 (findI l s : Nat), .bool (findIs l s)]) ∧ Below w.heap.size w w' := by
  have hn := fun (x : Ext) (W : World) => find1_any x s W
  have HN := hide hn
  have HR := hide hr
  clear hn hr
  go_enter Tryz.func184, Tryz.ntmps184
  go_wp2_with fail
  go_loopw [9, 10] (fun i j wr => ∃ (p q f : Nat), i = .int .i64 p ∧ j = .int .i64 q ∧ p ≤ q ∧ q ≤ l.length ∧ Hid (q - p < f ∧ bsE l s f p q = findI l s) ∧ Hid (Below w.heap.size w wr)) (fun i j _ => (intOf j).toNat - (intOf i).toNat)
  case atStart => exact ⟨0, l.length, l.length + 1, rfl, rfl, by omega, by omega, hide ⟨by omega, rfl⟩, hide (Below.refl _ _)⟩
  case round =>
    obtain ⟨p, q, f, rfl, rfl, hpq, hq, hinv, hbe⟩ := hrel
    by_cases hlt : p < q
    · obtain ⟨h, hh⟩ : ∃ h, h = (p + q) / 2 := ⟨_, rfl⟩
      have hm1 : p ≤ h := by omega
      have hm2 : h < q := by omega
      obtain ⟨x, hx⟩ : ∃ x, l[h]? = some x := ⟨l[h]'(by omega), List.getElem?_eq_getElem (by omega)⟩
      obtain ⟨b, o, rfl, hb, e1, e2⟩ := ext_cells HR.out hx
      have c1 : wr.cell? ⟨b, o + h * 2, none⟩ = some (.string x.nm) := (hbe.out.cell (p := ⟨b, o + h * 2, none⟩) hb).trans e1
      have c2 : wr.cell? ⟨b, o + h * 2 + 1, none⟩ = some (.string x.dt) := (hbe.out.cell (p := ⟨b, o + h * 2 + 1, none⟩) hb).trans e2
      have hd1 : ((p : Int) + (q : Int)) / 2 = (h : Int) := by omega
      have hf := fun (W : World) => HN.out x W
      unfold extV at hf
      obtain ⟨z, hz⟩ : ∃ z, z = cmpI x.nm s := ⟨_, rfl⟩
      rw [← hz] at hf
      have HF := hide hf
      have HZ := hide hz
      have HX := hide hx
      have HH := hide hh
      clear hf hz hx hh e1 e2
      go_wp2_with (go_at_call 185; refine (HF.out _).mono ?_; rintro e w1 ⟨rfl, hb1⟩)
      · have hk := (bsE_left hinv.out hlt HH.out HX.out).1 (cmpI_neg.1 (by rw [← HZ.out]; assumption))
        exact ⟨⟨h + 1, q, f - 1, by simp, rfl, by omega, hq, hide hk, hide (hbe.out.trans (hb1.mono hbe.out.size))⟩, by simp [intOf]; omega⟩
      · have hs : sless x.nm s = false := by
          cases k : sless x.nm s with
          | false => rfl
          | true => have := cmpI_neg.2 k; rw [← HZ.out] at this; omega
        have hk := (bsE_left hinv.out hlt HH.out HX.out).2 hs
        exact ⟨⟨p, h, f - 1, rfl, rfl, by omega, by omega, hide hk, hide (hbe.out.trans (hb1.mono hbe.out.size))⟩, by simp [intOf]; omega⟩
    · have hp := bsE_stop hinv.out hlt
      by_cases hn2 : p < l.length
      · obtain ⟨x, hx⟩ : ∃ x, l[p]? = some x := ⟨l[p], List.getElem?_eq_getElem hn2⟩
        obtain ⟨b, o, rfl, hb, e1, e2⟩ := ext_cells HR.out hx
        have c1 : wr.cell? ⟨b, o + p * 2, none⟩ = some (.string x.nm) := (hbe.out.cell (p := ⟨b, o + p * 2, none⟩) hb).trans e1
        have c2 : wr.cell? ⟨b, o + p * 2 + 1, none⟩ = some (.string x.dt) := (hbe.out.cell (p := ⟨b, o + p * 2 + 1, none⟩) hb).trans e2
        have hf := fun (W : World) => HN.out x W
        unfold extV at hf
        obtain ⟨z, hz⟩ : ∃ z, z = cmpI x.nm s := ⟨_, rfl⟩
        rw [← hz] at hf
        have hfs : findIs l s = (z == 0) := by
          unfold findIs
          rw [← hp, hx, hz]
          show decide (x.nm = s) = _
          by_cases k : x.nm = s
          · rw [cmpI_zero.2 k]; simp [k]
          · have : ¬ cmpI x.nm s = 0 := fun e => k (cmpI_zero.1 e)
            simp [k, this]
        have HF := hide hf
        have HS := hide hfs
        have HP := hide hp
        clear hf hz hx e1 e2 hfs hp
        go_wp2_with (go_at_call 185; refine (HF.out _).mono ?_; rintro e w1 ⟨rfl, hb1⟩)
        refine bodyPost_ret (v := .tuple #[.int .i64 (p : Nat), .bool (z == 0)]) (by simp [results, Tryz.results184, go_sem]) rfl ?_
        exact ⟨by rw [HS.out, ← HP.out], hbe.out.trans (hb1.mono hbe.out.size)⟩
      · have hfs : findIs l s = false := by
          unfold findIs
          rw [← hp, List.getElem?_eq_none (by omega)]
        have HS := hide hfs
        have HP := hide hp
        clear hfs hp
        go_wp2_with fail
        refine bodyPost_ret (v := .tuple #[.int .i64 (p : Nat), .bool false]) (by simp [results, Tryz.results184, go_sem]) rfl ?_
        exact ⟨by rw [HS.out, ← HP.out], hbe.out⟩
theorem find_any (A : Option Addr) (c : Nat) (l : List Ext) (s : ByteArray) (w : World) (hr : Rd w w.heap.size A (flatE l)) (hl : l.length ≤ 1000000000) :
    Calls Tryz.prog 149 #[.slice A l.length c, .string s] w fun e w' => e = .returned (.tuple #[.int .i64 (findI l s : Nat), .bool (findIs l s)]) ∧ Below w.heap.size w w' := by
  have hi := bsearch_ext A c l s w hr hl
  have HI := hide hi
  clear hi hr
  go_enter Tryz.func149, Tryz.ntmps149
  go_wp2_with (go_at_call 184; refine (HI.out).mono ?_; rintro e w1 ⟨rfl, hb1⟩)
  refine bodyPost_ret (v := .tuple #[.int .i64 (findI l s : Nat), .bool (findIs l s)]) (by simp [results, Tryz.results149, go_sem]) rfl ?_
  exact ⟨rfl, hb1⟩
end Go.Proofs.YtmopegpkoedgbaaGreatDoor
/- A disk at work, and an arena, in memory: words for the walks. What a call may write: old blocks of the arena's own types, beyond a base. No program in sight but for the numbers of types. -/
namespace Go.Proofs.YtmopegpkoedgbaaGreatDoor
open Go.RowKit

def flatW (l : List Wt) : List Value := l.flatMap fun x => [.string x.nm, .int .i64 x.sec, .string x.dt]
def flatF (l : List Frm) : List Value := l.flatMap fun f => [.string f.nm, .int .i64 f.sec, .string f.dt, .int .i64 f.pins, .bool f.dirty, .int .u64 f.tick, .bool f.leased]
theorem flatE_length (l : List Ext) : (flatE l).length = l.length * 2 := by
  induction l with
  | nil => rfl
  | cons x l ih => unfold flatE at ih ⊢; rw [List.flatMap_cons, List.length_append, ih]; simp; omega
theorem flatW_length (l : List Wt) : (flatW l).length = l.length * 3 := by
  induction l with
  | nil => rfl
  | cons x l ih => unfold flatW at ih ⊢; rw [List.flatMap_cons, List.length_append, ih]; simp; omega
theorem flatF_length (l : List Frm) : (flatF l).length = l.length * 7 := by
  induction l with
  | nil => rfl
  | cons x l ih => unfold flatF at ih ⊢; rw [List.flatMap_cons, List.length_append, ih]; simp; omega
theorem flatE_app (l m : List Ext) : flatE (l ++ m) = flatE l ++ flatE m := List.flatMap_append
theorem flatW_app (l m : List Wt) : flatW (l ++ m) = flatW l ++ flatW m := List.flatMap_append
theorem flatE_one {l : List Ext} : ∀ u ∈ flatE l, u.oneCell' = true := fun u hu => by
  obtain ⟨x, _, hx⟩ := List.mem_flatMap.1 hu
  simp at hx; rcases hx with rfl | rfl <;> rfl
theorem flatW_one {l : List Wt} : ∀ u ∈ flatW l, u.oneCell' = true := fun u hu => by
  obtain ⟨x, _, hx⟩ := List.mem_flatMap.1 hu
  simp at hx; rcases hx with rfl | rfl | rfl <;> rfl
theorem flat_get {α : Type} {k : Nat} {f : α → List Value} (hf : ∀ x, (f x).length = k) : ∀ {l : List α} {i : Nat} {x : α}, l[i]? = some x → ∀ j, j < k → (l.flatMap f)[k * i + j]? = (f x)[j]? := by
  intro l
  induction l with
  | nil => intro i x h; cases h
  | cons y l ih =>
    intro i x h j hj
    rw [List.flatMap_cons]
    cases i with
    | zero => cases h; rw [Nat.mul_zero, Nat.zero_add, List.getElem?_append_left (by rw [hf]; exact hj)]
    | succ i =>
      rw [List.getElem?_append_right (by rw [hf]; rw [Nat.mul_succ]; omega), hf, ← ih (i := i) (x := x) (by simpa using h) j hj]
      congr 1; rw [Nat.mul_succ]; omega
theorem flatW_get {l : List Wt} {k : Nat} {x : Wt} (h : l[k]? = some x) : (flatW l)[3 * k]? = some (.string x.nm) ∧ (flatW l)[3 * k + 1]? = some (.int .i64 x.sec) ∧ (flatW l)[3 * k + 2]? = some (.string x.dt) :=
  ⟨flat_get (f := fun x : Wt => [.string x.nm, .int .i64 x.sec, .string x.dt]) (fun _ => rfl) h 0 (by omega), flat_get (f := fun x : Wt => [.string x.nm, .int .i64 x.sec, .string x.dt]) (fun _ => rfl) h 1 (by omega), flat_get (f := fun x : Wt => [.string x.nm, .int .i64 x.sec, .string x.dt]) (fun _ => rfl) h 2 (by omega)⟩
/-- The cells of a write in a list. -/
theorem wt_cells {w : World} {B : Nat} {A : Option Addr} {l : List Wt} (hr : Rd w B A (flatW l)) {k : Nat} {x : Wt} (hx : l[k]? = some x) : ∃ b o, A = some ⟨b, o, none⟩ ∧ b < B ∧ w.cell? ⟨b, o + k * 3, none⟩ = some (.string x.nm) ∧ w.cell? ⟨b, o + k * 3 + 1, none⟩ = some (.int .i64 x.sec) ∧ w.cell? ⟨b, o + k * 3 + 2, none⟩ = some (.string x.dt) := by
  obtain ⟨h1, h2, h3⟩ := flatW_get hx
  obtain ⟨b, o, rfl, hb, hc⟩ := hr _ _ h1
  obtain ⟨b2, o2, e, _, hc2⟩ := hr _ _ h2
  simp only [Option.some.injEq, Addr.mk.injEq, and_true] at e
  obtain ⟨rfl, rfl⟩ := e
  obtain ⟨b3, o3, e, _, hc3⟩ := hr _ _ h3
  simp only [Option.some.injEq, Addr.mk.injEq, and_true] at e
  obtain ⟨rfl, rfl⟩ := e
  refine ⟨b, o, rfl, hb, ?_, ?_, ?_⟩
  · rwa [show o + 3 * k = o + k * 3 by omega] at hc
  · rwa [show o + (3 * k + 1) = o + k * 3 + 1 by omega] at hc2
  · rwa [show o + (3 * k + 2) = o + k * 3 + 2 by omega] at hc3
def frmV (f : Frm) : List Value := [.string f.nm, .int .i64 f.sec, .string f.dt, .int .i64 f.pins, .bool f.dirty, .int .u64 f.tick, .bool f.leased]
theorem flatF_get {l : List Frm} {k : Nat} {f : Frm} (h : l[k]? = some f) : ∀ j, j < 7 → (flatF l)[7 * k + j]? = (frmV f)[j]? :=
  flat_get (f := frmV) (fun _ => rfl) h
/-- The arena's own types. -/
def ATy (t : TypeId) : Prop := t = 117 ∨ t = 77 ∨ t = 79 ∨ t = 136 ∨ t = 233
/-- A disk's own types. -/
def DTy (t : TypeId) : Prop := t = 117 ∨ t = 77 ∨ t = 79
/-- A field: the blocks that may be written; all blocks from some place on are of it. -/
structure Fld where
  ok : Nat → Prop
  top : Nat
  fit : ∀ g, top ≤ g → ok g
def fl (n : Nat) : Fld := ⟨fun g => n ≤ g, n, fun _ h => h⟩
/-- What may be written: old blocks of some types, of a field. -/
def AS (T : TypeId → Prop) (B : Fld) (w : World) (g : Nat) : Prop := B.ok g ∧ ∃ cs t z, w.heap[g]? = some (.cells cs t z) ∧ T t
def AFr (T : TypeId → Prop) (B : Fld) (w w' : World) : Prop := Fr (AS T B w) w w'

section
variable {T : TypeId → Prop} {B : Fld} {a w w' : World}
theorem AFr.refl (T : TypeId → Prop) (B : Fld) (w : World) : AFr T B w w := Fr.refl _ _
theorem Fr.back {S : Nat → Prop} (h : Fr S a w) (hS : ∀ g, g < a.heap.size → ¬ AS T B a g → ¬ S g) {g : Nat} (hg : AS T B w g) : AS T B a g ∨ a.heap.size ≤ g := by
  by_cases hl : g < a.heap.size
  · by_cases ha : AS T B a g
    · exact .inl ha
    · have := h.block g hl (hS g hl ha)
      obtain ⟨h1, cs, t, z, h2, h3⟩ := hg
      rw [this] at h2
      exact .inl ⟨h1, cs, t, z, h2, h3⟩
  · exact .inr (by omega)
theorem AFr.back (h : AFr T B a w) {g : Nat} (hg : AS T B w g) : AS T B a g ∨ a.heap.size ≤ g := Fr.back h (fun _ _ h => h) hg
theorem AFr.trans (h : AFr T B a w) (k : AFr T B w w') : AFr T B a w' := Fr.trans h k fun g hg => h.back hg
theorem AFr.below (h : Below w.heap.size w w') : AFr T B w w' := Fr.below h _
theorem AFr.wide {T' : TypeId → Prop} (h : AFr T B w w') (hT : ∀ t, T t → T' t) : AFr T' B w w' := Fr.mono h fun g ⟨h1, cs, t, z, h2, h3⟩ => ⟨h1, cs, t, z, h2, hT t h3⟩
theorem AFr.toBelow {n : Nat} (h : AFr T (fl n) w w') (hB : n ≤ w.heap.size) : Below n w w' := Fr.toBelowB h (fun _ hg => hg.1) hB
theorem AFr.drew (h : AFr T B a w) : AFr T B a w.drew := Fr.drew h
theorem AFr.drewN (h : AFr T B a w) (n : Nat) : AFr T B a (w.drewN n) := Fr.drewN h n
theorem AS.bk {g : Nat} {t : TypeId} {cs : Array Value} (h : Bk w g t cs) (hB : B.ok g) (ht : T t) : AS T B w g := ⟨hB, cs, t, _, h, ht⟩
theorem AFr.set_ (h : AFr T B a w) {g : Nat} {t : TypeId} {cs : Array Value} (hb : Bk w g t cs) (hB : B.ok g) (ht : T t) (i : Nat) (u : Value) : AFr T B a (w.setCell ⟨g, i, none⟩ u) :=
  Fr.setCell h (p := ⟨g, i, none⟩) (h.back (AS.bk hb hB ht)) u
theorem AFr.grown (h : AFr T B a w) {base e size n : Nat} {v : Value} {xs : List Value} (ho : w.ownsRow base e size v n xs) (hk : ∀ g, v.ownBlock = some g → B.ok g) (ht : T e) (hg : w.grownBy w' v.ownBlock) : AFr T B a w' :=
  h.trans (Fr.grown hg fun g hv => by
    rcases ho.2 with ⟨rfl, _⟩ | ⟨g', cap, cur, rfl, hb, hh, _⟩
    · simp [Value.ownBlock] at hv
    · have : g = g' := by simpa [Value.ownBlock] using hv.symm
      subst this
      exact ⟨hk _ rfl, cur, e, (0, 0), hh, ht⟩)
theorem Bk.afr {g : Nat} {t : TypeId} {cs : Array Value} (hb : Bk w g t cs) (h : AFr T B w w') (ht : ¬ T t) : Bk w' g t cs := hb.fr h fun ⟨_, cs', t', z, h1, h2⟩ => by
  unfold Bk at hb
  rw [hb] at h1
  simp only [Option.some.injEq, Obj.cells.injEq] at h1
  exact ht (by rw [h1.2.1]; exact h2)
theorem own_afr {base e size n : Nat} {v : Value} {xs : List Value} (ho : w.ownsRow base e size v n xs) (h : AFr T B w w') (ht : ¬ T e) : w'.ownsRow base e size v n xs := own_fr ho h fun g hv ⟨_, cs', t', z, h1, h2⟩ => by
  rcases ho.2 with ⟨rfl, _⟩ | ⟨g', cap, cur, rfl, hb, hh, _⟩
  · simp [Value.ownBlock] at hv
  · have : g = g' := by simpa [Value.ownBlock] using hv.symm
    subst this
    rw [hh] at h1
    simp only [Option.some.injEq, Obj.cells.injEq] at h1
    exact ht (by rw [h1.2.1]; exact h2)
theorem own_keep {base e size n : Nat} {v : Value} {xs : List Value} (ho : w.ownsRow base e size v n xs) (h : Below w.heap.size w w') : w'.ownsRow base e size v n xs := own_fr ho (Fr.below h (fun _ => False)) fun _ _ h => h
end
theorem btrans {a w w' : World} (h : Below a.heap.size a w) (k : Below w.heap.size w w') : Below a.heap.size a w' := h.trans (k.mono h.size)
theorem bal1 {w w' : World} {X : Obj} (h : Below (w.heap.size + 1) (w.alloc X) w') : Below w.heap.size w w' := ((Below.refl _ _).alloc (Nat.le_refl _) _).trans (h.mono (by omega))
theorem bal2 {w w' : World} {X Y : Obj} (h : Below (w.heap.size + 1 + 1) ((w.alloc X).alloc Y) w') : Below w.heap.size w w' := (((Below.refl _ _).alloc (Nat.le_refl _) _).alloc (by simp) _).trans (h.mono (by omega))
theorem ba1 (w : World) (X : Obj) : Below w.heap.size w (w.alloc X) := (Below.refl _ _).alloc (Nat.le_refl _) _
theorem ba2 (w : World) (X Y : Obj) : Below w.heap.size w ((w.alloc X).alloc Y) := ((Below.refl _ _).alloc (Nat.le_refl _) _).alloc (by simp) _
/-- The blocks of a disk at work are of a field, and so is all that is new. -/
structure FB (B : Fld) (q n : Nat) (E W : Value) : Prop where
  dev : B.ok q
  exts : ∀ g, E.ownBlock = some g → B.ok g
  waits : ∀ g, W.ownBlock = some g → B.ok g
  top : B.top ≤ n
theorem FB.up {B : Fld} {q n m : Nat} {E W : Value} (h : FB B q n E W) (hm : n ≤ m) : FB B q m E W := ⟨h.dev, h.exts, h.waits, Nat.le_trans h.top hm⟩
/-- A disk at work lies in block q, its lists in blocks of their own, all of the field B. -/
def DvAt (w : World) (B : Fld) (q : Nat) (d : Dsk) : Prop := ∃ E W, Bk w q 117 #[.int .i64 d.size, E, W, .int .i64 d.fuse, .bool d.down] ∧ w.ownsRow 0 77 2 E d.exts.length (flatE d.exts) ∧ w.ownsRow 0 79 3 W d.waits.length (flatW d.waits) ∧ FB B q w.heap.size E W ∧ d.fuse ≤ 9223372036854775807
/-- A disk, as a value that is read. -/
def Dv (w : World) (B : Nat) (v : Value) (d : Dsk) : Prop := ∃ AE cE AW cW, v = .agg #[.int .i64 d.size, .slice AE d.exts.length cE, .slice AW d.waits.length cW, .int .i64 d.fuse, .bool d.down] ∧ Rd w B AE (flatE d.exts) ∧ Rd w B AW (flatW d.waits)
theorem own_rdk {w : World} {base e k n c : Nat} {A : Option Addr} {xs : List Value} (h : w.ownsRow base e k (.slice A n c) n xs) : Rd w w.heap.size A xs := fun i u hu => by
  rcases h.2 with ⟨hv, hn⟩ | ⟨g, cap, cur, hv, hb, hg, hc⟩
  · have := h.1
    rw [hn] at this
    have hx : xs = [] := List.eq_nil_of_length_eq_zero (by simpa using this)
    subst hx
    simp at hu
  · simp only [Value.slice.injEq] at hv
    obtain ⟨rfl, _, rfl⟩ := hv
    refine ⟨g, 0, rfl, (Array.getElem?_eq_some_iff.1 hg).1, ?_⟩
    have := h.cells (g := g) rfl i u hu
    rw [Addr.add_lit] at this
    exact this
theorem own_formk {w : World} {base e k n : Nat} {v : Value} {xs : List Value} (h : w.ownsRow base e k v n xs) : ∃ A c, v = .slice A n c := by
  rcases h.2 with ⟨rfl, rfl⟩ | ⟨g, cap, cur, rfl, _⟩
  · exact ⟨_, _, rfl⟩
  · exact ⟨_, _, rfl⟩
theorem five_cells {w : World} {g : Nat} {t : TypeId} {a b c d e : Value} (h : Bk w g t #[a, b, c, d, e]) : w.cell? ⟨g, 0, none⟩ = some a ∧ w.cell? ⟨g, 1, none⟩ = some b ∧ w.cell? ⟨g, 2, none⟩ = some c ∧ w.cell? ⟨g, 3, none⟩ = some d ∧ w.cell? ⟨g, 4, none⟩ = some e := ⟨h.cell 0, h.cell 1, h.cell 2, h.cell 3, h.cell 4⟩
theorem five_free {w : World} {g : Nat} {t : TypeId} {cs : Array Value} (h : Bk w g t cs) : w.frozen? ⟨g, 0, none⟩ = false ∧ w.frozen? ⟨g, 1, none⟩ = false ∧ w.frozen? ⟨g, 2, none⟩ = false ∧ w.frozen? ⟨g, 3, none⟩ = false ∧ w.frozen? ⟨g, 4, none⟩ = false := ⟨h.free 0, h.free 1, h.free 2, h.free 3, h.free 4⟩
theorem size_setCell (w : World) (p : Addr) (u : Value) : (w.setCell p u).heap.size = w.heap.size := by simp [World.setCell]
section
variable {B : Fld} {q : Nat} {w w' : World} {d : Dsk}
theorem DvAt.keep (h : DvAt w B q d) (hb : Below w.heap.size w w') : DvAt w' B q d := by
  obtain ⟨E, W, h1, h2, h3, h4⟩ := h
  exact ⟨E, W, h1.keep hb, own_keep h2 hb, own_keep h3 hb, h4.1.up hb.size, h4.2⟩
theorem DvAt.drew (h : DvAt w B q d) : DvAt w.drew B q d := h
/-- It stays behind a write into a block of another type. -/
theorem DvAt.far (h : DvAt w B q d) {g : Nat} {t : TypeId} {cs : Array Value} (hb : Bk w g t cs) (h1 : t ≠ 117) (h2 : t ≠ 77) (h3 : t ≠ 79) (i : Nat) (u : Value) : DvAt (w.setCell ⟨g, i, none⟩ u) B q d := by
  obtain ⟨E, W, a1, a2, a3, a4⟩ := h
  refine ⟨E, W, a1.far (p := ⟨g, i, none⟩) (fun e => a1.ne_ hb (Ne.symm h1) e) u, own_set a2 (p := ⟨g, i, none⟩) (fun e => own_ne a2 hb (Ne.symm h2) e.symm) u, own_set a3 (p := ⟨g, i, none⟩) (fun e => own_ne a3 hb (Ne.symm h3) e.symm) u, by rw [size_setCell]; exact a4⟩
theorem Dv.keep {B : Nat} {v : Value} (h : Dv w B v d) (hk : ∀ p : Addr, p.block < B → w'.cell? p = w.cell? p) : Dv w' B v d := by
  obtain ⟨AE, cE, AW, cW, e, h1, h2⟩ := h
  exact ⟨AE, cE, AW, cW, e, h1.keep hk, h2.keep hk⟩
theorem Dv.below {B : Nat} {v : Value} (h : Dv w B v d) (hb : Below B w w') : Dv w' B v d := h.keep fun _ hp => hb.cell hp
theorem Dv.more {B : Nat} {v : Value} {B' : Nat} (h : Dv w B v d) (hB : B ≤ B') : Dv w B' v d := by
  obtain ⟨AE, cE, AW, cW, e, h1, h2⟩ := h
  exact ⟨AE, cE, AW, cW, e, h1.more hB, h2.more hB⟩
end
end Go.Proofs.YtmopegpkoedgbaaGreatDoor
/- Walks: disk.Make, disk.extents. -/
namespace Go.Proofs.YtmopegpkoedgbaaGreatDoor
open Go.RowKit

theorem make_disk (n : Int) (w : World) : Calls Tryz.prog 38 #[.int .i64 n] w fun e w' => e = .returned (.tuple #[.agg #[.int .i64 (makeD n).1.size, .slice none 0 0, .slice none 0 0, .int .i64 (makeD n).1.fuse, .bool false], .int .i64 (makeD n).2]) ∧ Below w.heap.size w w' := by
  by_cases h1 : n < 0
  · have hm : makeD n = (zeroD, 1) := by unfold makeD; rw [if_pos (.inl h1)]
    rw [hm]
    clear hm
    go_enter Tryz.func38, Tryz.ntmps38
    go_wp2_with fail
    refine bodyPost_ret (v := .tuple #[.agg #[.int .i64 0, .slice none 0 0, .slice none 0 0, .int .i64 0, .bool false], .int .i64 1]) (by simp [results, Tryz.results38, go_sem]) rfl ?_
    exact ⟨rfl, ((Below.refl _ _).alloc (Nat.le_refl _) _)⟩
  · by_cases h2 : 16384 < n
    · have hm : makeD n = (zeroD, 1) := by unfold makeD; rw [if_pos (.inr h2)]
      rw [hm]
      clear hm
      go_enter Tryz.func38, Tryz.ntmps38
      go_wp2_with fail
      refine bodyPost_ret (v := .tuple #[.agg #[.int .i64 0, .slice none 0 0, .slice none 0 0, .int .i64 0, .bool false], .int .i64 1]) (by simp [results, Tryz.results38, go_sem]) rfl ?_
      exact ⟨rfl, ((Below.refl _ _).alloc (Nat.le_refl _) _)⟩
    · have hm : makeD n = (⟨n, [], [], -1, false⟩, 0) := by unfold makeD; rw [if_neg (by omega)]
      rw [hm]
      clear hm
      go_enter Tryz.func38, Tryz.ntmps38
      go_wp2_with fail
      refine bodyPost_ret (v := .tuple #[.agg #[.int .i64 n, .slice none 0 0, .slice none 0 0, .int .i64 (-1), .bool false], .int .i64 0]) (by simp [results, Tryz.results38, go_sem]) rfl ?_
      exact ⟨rfl, ((Below.refl _ _).alloc (Nat.le_refl _) _)⟩
/-- disk.named of one name, in a new block behind another one. -/
theorem named_new1 (s : ByteArray) (X : Obj) (t : TypeId) (w : World) : Calls Tryz.prog 150 #[.slice (some ⟨w.heap.size + 1, 0, none⟩) 1 1] ((w.alloc X).alloc (.cells #[.string s] t)) fun e w' => e = .returned (.bool (namedB s)) ∧ Below (w.heap.size + 1 + 1) ((w.alloc X).alloc (.cells #[.string s] t)) w' := by
  have h := named_any (some ⟨w.heap.size + 1, 0, none⟩) 1 [s] ((w.alloc X).alloc (.cells #[.string s] t)) (fun i u hu => by
    have hb := Bk.new1 w X t #[.string s]
    cases i with
    | zero => cases hu; exact ⟨_, _, rfl, hb.lt, hb.cell 0⟩
    | succ i => cases hu) (by simp)
  have e1 : [s].all namedB = namedB s := by simp
  have e2 : ((w.alloc X).alloc (.cells #[.string s] t)).heap.size = w.heap.size + 1 + 1 := by simp
  rw [e1, e2] at h
  exact h
/-- How two names lie. -/
theorem leq3 (a b : ByteArray) : ((sless a b || decide (a = b)) = true ∧ Op.bytesLess a.toList b.toList = true) ∨ ((sless a b || decide (a = b)) = true ∧ Op.bytesLess a.toList b.toList = false ∧ a = b) ∨ ((sless a b || decide (a = b)) = false ∧ Op.bytesLess a.toList b.toList = false ∧ (a.toList == b.toList) = false ∧ ¬ a.toList = b.toList) := by
  unfold sless
  cases h : Op.bytesLess a.toList b.toList with
  | true => exact .inl ⟨by simp, rfl⟩
  | false =>
    by_cases e : a = b
    · exact .inr (.inl ⟨by simp [e], rfl, e⟩)
    · have : ¬ a.toList = b.toList := fun h => e (toList_inj' h)
      exact .inr (.inr ⟨by simp [e], rfl, by simp [this], this⟩)
theorem extsOK_step {last : ByteArray} {sz : Int} {l : List Ext} {k : Nat} {x : Ext} {r : Bool} (h : r = extsOK last sz (l.drop k)) (hx : l[k]? = some x) :
    r = (namedB x.nm && !(sless x.nm last || decide (x.nm = last)) && decide (0 < x.dt.size) && decide (x.dt.size % 64 = 0) && decide (0 ≤ sz - (secsE x : Nat)) && extsOK x.nm (sz - (secsE x : Nat)) (l.drop (k + 1))) := by
  obtain ⟨hk, e⟩ := List.getElem?_eq_some_iff.1 hx
  rw [List.drop_eq_getElem_cons hk, e] at h
  exact h
set_option maxHeartbeats 4000000 in
set_option maxRecDepth 100000 in
theorem extents_any (A : Option Addr) (c : Nat) (l : List Ext) (size : Int) (w : World) (hr : Rd w w.heap.size A (flatE l)) (hl : l.length ≤ 1000000000) (hd : ∀ x ∈ l, x.dt.size ≤ 1000000000) (h0 : 0 ≤ size) (h1 : size ≤ 1000000000) :
    Calls Tryz.prog 156 #[.slice A l.length c, .int .i64 size] w fun e w' => e = .returned (.bool (extsOK ⟨#[]⟩ size l)) ∧ Below w.heap.size w w' := by
  have hn := fun (s : ByteArray) (X : Obj) (t : TypeId) (W : World) => named_new1 s X t W
  have HN := hide hn
  have hs := fun (x : Ext) (W : World) (h : x.dt.size ≤ 1000000000) => sectors_any x W (by omega)
  have HS := hide hs
  have HR := hide hr
  have HD := hide hd
  clear hn hs hr hd
  go_enter Tryz.func156, Tryz.ntmps156
  go_wp2_with fail
  go_loopw [1, 5, 10] (fun s1 s5 s10 wr => ∃ (k : Nat) (sz : Int) (last : ByteArray), s1 = .int .i64 sz ∧ s5 = .string last ∧ s10 = .int .i64 k ∧ k ≤ l.length ∧ 0 ≤ sz ∧ sz ≤ 1000000000 ∧ Hid (extsOK ⟨#[]⟩ size l = extsOK last sz (l.drop k)) ∧ Hid (Below w.heap.size w wr)) (fun _ _ i _ => l.length - (intOf i).toNat)
  case atStart => exact ⟨0, size, ⟨#[]⟩, rfl, rfl, rfl, by omega, h0, h1, hide rfl, hide (Below.refl _ _)⟩
  case round =>
    obtain ⟨k, sz, last, rfl, rfl, rfl, hk, hz0, hz1, hinv, hbe⟩ := hrel
    by_cases hlt : k < l.length
    · obtain ⟨x, hx⟩ : ∃ x, l[k]? = some x := ⟨l[k], List.getElem?_eq_getElem hlt⟩
      obtain ⟨b, o, rfl, hb, e1, e2⟩ := ext_cells HR.out hx
      have c1 : wr.cell? ⟨b, o + k * 2, none⟩ = some (.string x.nm) := (hbe.out.cell (p := ⟨b, o + k * 2, none⟩) hb).trans e1
      have c2 : wr.cell? ⟨b, o + k * 2 + 1, none⟩ = some (.string x.dt) := (hbe.out.cell (p := ⟨b, o + k * 2 + 1, none⟩) hb).trans e2
      have hst := extsOK_step hinv.out hx
      have hdx := HD.out x (List.mem_of_getElem? hx)
      have hsx := fun W => HS.out x W hdx
      have hsec : secsE x ≤ 1000000000 := by unfold secsE; omega
      have he := isEmpty_str x.dt
      obtain ⟨x1, x2⟩ := x
      unfold extV at hsx
      obtain ⟨q, hq⟩ : ∃ q, q = secsE ⟨x1, x2⟩ := ⟨_, rfl⟩
      rw [← hq] at hsx hsec hst
      obtain ⟨u, hu⟩ : ∃ u, u = namedB x1 := ⟨_, rfl⟩
      have hleq := leq3 x1 last
      obtain ⟨v, hv⟩ : ∃ v, v = (sless x1 last || decide (x1 = last)) := ⟨_, rfl⟩
      have hn1 := fun X t W => HN.out x1 X t W
      obtain ⟨u, hu⟩ : ∃ u, u = namedB x1 := ⟨_, rfl⟩
      rw [← hu] at hn1
      rw [← hu, ← hv] at hst
      rw [← hv] at hleq
      have HST := hide hst
      have HSX := hide hsx
      have HN1 := hide hn1
      clear hst hsx hn1 hx hq hu e1 e2 hv
      cases u with
      | false =>
        clear hleq he
        go_wp2_with (go_at_call 150; refine (HN1.out _ _ _).mono ?_; rintro e w1 ⟨rfl, hb1⟩; have hx1 := ((Bk.new wr _ _).alloc _).below hb1 (by omega); obtain ⟨y0, y1⟩ := two_cells hx1; have HX1 := hide hx1; have HB1 := hide hb1; clear hb1 hx1)
        go_ret
        exact ⟨by rw [HST.out]; simp, btrans hbe.out (bal2 HB1.out)⟩
      | true =>
        rcases hleq with ⟨rfl, g1⟩ | ⟨rfl, g1, rfl⟩ | ⟨rfl, g1, g2, g3⟩
        · clear he
          go_wp2_with (go_at_call 150; refine (HN1.out _ _ _).mono ?_; rintro e w1 ⟨rfl, hb1⟩; have hx1 := ((Bk.new wr _ _).alloc _).below hb1 (by omega); obtain ⟨y0, y1⟩ := two_cells hx1; have HX1 := hide hx1; have HB1 := hide hb1; clear hb1 hx1)
          go_ret
          exact ⟨by rw [HST.out]; simp, btrans hbe.out (bal2 HB1.out)⟩
        · clear he
          go_wp2_with (go_at_call 150; refine (HN1.out _ _ _).mono ?_; rintro e w1 ⟨rfl, hb1⟩; have hx1 := ((Bk.new wr _ _).alloc _).below hb1 (by omega); obtain ⟨y0, y1⟩ := two_cells hx1; have HX1 := hide hx1; have HB1 := hide hb1; clear hb1 hx1)
          go_ret
          exact ⟨by rw [HST.out]; simp, btrans hbe.out (bal2 HB1.out)⟩
        · by_cases d0 : x2.size = 0
          · have d1 : x2.toList.isEmpty = true := by rw [he]; simp [d0]
            have D0 := hide d0
            clear he d0
            go_wp2_with (go_at_call 150; refine (HN1.out _ _ _).mono ?_; rintro e w1 ⟨rfl, hb1⟩; have hx1 := ((Bk.new wr _ _).alloc _).below hb1 (by omega); obtain ⟨y0, y1⟩ := two_cells hx1; have HX1 := hide hx1; have HB1 := hide hb1; clear hb1 hx1)
            go_ret
            exact ⟨by rw [HST.out]; simp [D0.out], btrans hbe.out (bal2 HB1.out)⟩
          · have d1 : x2.toList.isEmpty = false := by rw [he]; simp [d0]
            have D0 := hide d0
            clear he d0
            by_cases d2 : x2.size % 64 = 0
            · have d3 : (((x2.size : Int) % 64) != 0) = false := by simp; omega
              have D2 := hide d2
              clear d2
              by_cases d4 : sz - (q : Int) < 0
              · have d5 : decide (sz - (q : Int) < 0) = true := decide_eq_true d4
                have D4 := hide d4
                clear d4
                go_wp2_with (first | (go_at_call 150; refine (HN1.out _ _ _).mono ?_; rintro e w1 ⟨rfl, hb1⟩; have hx1 := ((Bk.new wr _ _).alloc _).below hb1 (by omega); obtain ⟨y0, y1⟩ := two_cells hx1; have HX1 := hide hx1; have HB1 := hide hb1; clear hb1 hx1) | (go_at_call 157; refine (HSX.out _).mono ?_; rintro e w2 ⟨rfl, hb2⟩; have HB2 := hide hb2; clear hb2))
                go_ret
                exact ⟨by have := D4.out; rw [HST.out]; have : ¬ (q : Int) ≤ sz := by omega
                          simp [this], btrans (btrans hbe.out (bal2 HB1.out)) HB2.out⟩
              · have d5 : decide (sz - (q : Int) < 0) = false := decide_eq_false d4
                have D4 := hide d4
                clear d4
                go_wp2_with (first | (go_at_call 150; refine (HN1.out _ _ _).mono ?_; rintro e w1 ⟨rfl, hb1⟩; have hx1 := ((Bk.new wr _ _).alloc _).below hb1 (by omega); obtain ⟨y0, y1⟩ := two_cells hx1; have HX1 := hide hx1; have HB1 := hide hb1; clear hb1 hx1) | (go_at_call 157; refine (HSX.out _).mono ?_; rintro e w2 ⟨rfl, hb2⟩; have hx2 := HX1.out.keep hb2; obtain ⟨z0, z1⟩ := two_cells hx2; have HB2 := hide hb2; clear hb2 hx2))
                refine ⟨⟨k + 1, sz - (q : Int), x1, rfl, rfl, by simp, by omega, by have := D4.out; omega, by omega, hide ?_, hide ?_⟩, by simp [intOf]; omega⟩
                · have h4 := D4.out
                  have h5 : (q : Int) ≤ sz := by omega
                  have h6 : 0 < x2.size := by have := D0.out; omega
                  rw [HST.out]; simp [h5, h6, D2.out]
                · exact btrans (btrans hbe.out (bal2 HB1.out)) HB2.out
            · have d3 : (((x2.size : Int) % 64) != 0) = true := by simp; omega
              have D2 := hide d2
              clear d2
              go_wp2_with (go_at_call 150; refine (HN1.out _ _ _).mono ?_; rintro e w1 ⟨rfl, hb1⟩; have hx1 := ((Bk.new wr _ _).alloc _).below hb1 (by omega); obtain ⟨y0, y1⟩ := two_cells hx1; have HX1 := hide hx1; have HB1 := hide hb1; clear hb1 hx1)
              go_ret
              exact ⟨by rw [HST.out]; simp [D2.out], btrans hbe.out (bal2 HB1.out)⟩
    · obtain rfl : k = l.length := by omega
      go_wp2_with fail
      go_ret
      exact ⟨by rw [hinv.out]; simp [extsOK], hbe.out⟩
end Go.Proofs.YtmopegpkoedgbaaGreatDoor
/- Walks: (*loser.Tree).grow, loser.Of. -/
namespace Go.Proofs.YtmopegpkoedgbaaGreatDoor
open Go.RowKit

theorem info_i64 : (Tryz.prog.info? 3).map (fun i => (i.zero, i.size, i.bytes)) = some (some (.int .i64 0), 1, 8) := by kernel_rfl
theorem made_i64 (n : Nat) : madeCells #[Value.int .i64 0] n = (vint (List.replicate n 0)).toArray := by
  apply Array.ext'
  apply List.ext_getElem?
  intro i
  simp [madeCells, vint]
  rcases Nat.lt_or_ge i n with h | h
  · simp [h, Nat.mod_one]
  · simp [h]
theorem run_ints (n : Nat) (hn : n ≤ 3000000) (W : World) : (Instr.makeSlice 39 (.int .i64 n) (.int .i64 n)).run Tryz.prog W = .ok (.slice (some ⟨W.heap.size, 0, none⟩) n n) (W.alloc (.cells (vint (List.replicate n 0)).toArray 3)) := by
  obtain ⟨i0, hi, hz0, hz1, hz2⟩ := info_parts info_i64
  have := run_make (P := Tryz.prog) W 39 3 i0 _ Tryz.underlying39 hi hz0 .i64 .i64 n n (by omega) (by omega) (by rw [hz2]; omega) (by omega)
  rw [hz1, Int.toNat_natCast, Nat.mul_one] at this
  rw [← made_i64]
  exact this
/-- The winners, of whom the first leaves are laid. -/
def winP (k i : Nat) : List Nat := List.replicate k 0 ++ (List.range i ++ List.replicate (k - i) 0)
theorem winP_zero (k : Nat) : winP k 0 = List.replicate (2 * k) 0 := by
  unfold winP
  rw [List.range_zero, List.nil_append, Nat.sub_zero, List.replicate_append_replicate, Nat.two_mul]
theorem winP_all (k : Nat) : winP k k = List.replicate k 0 ++ List.range k := by
  unfold winP
  rw [Nat.sub_self, List.replicate_zero, List.append_nil]
theorem winP_set {k i : Nat} (h : i < k) : (winP k i).set (k + i) i = winP k (i + 1) := by
  unfold winP
  rw [List.set_append_right _ _ (by simp), List.length_replicate, Nat.add_sub_cancel_left, List.set_append_right _ _ (by simp), List.length_range, Nat.sub_self, List.range_succ, show k - i = (k - (i + 1)) + 1 by omega, List.replicate_succ, List.set_cons_zero, List.append_assoc]
  rfl
theorem winP_len (k i : Nat) (h : i ≤ k) : (winP k i).length = 2 * k := by
  unfold winP
  simp
  omega
theorem winP_ok {k i : Nat} (hk : 1 ≤ k) (h : i ≤ k) : NodesOK k (winP k i) := fun x hx => by
  unfold winP at hx
  rw [List.mem_append, List.mem_append, List.mem_replicate, List.mem_replicate, List.mem_range] at hx
  omega
theorem growT_step {keys : List (List Nat)} {n : Nat} {win tree : List Nat} {a b : Nat} (hn : 1 ≤ n) (ha : win[2 * n]? = some a) (hb : win[2 * n + 1]? = some b) : growT keys n win tree = if beatsT keys b a then growT keys (n - 1) (win.set n b) (tree.set n a) else growT keys (n - 1) (win.set n a) (tree.set n b) := by
  obtain ⟨m, rfl⟩ : ∃ m, n = m + 1 := ⟨n - 1, by omega⟩
  rw [growT, Nat.add_sub_cancel]
  simp only [List.getD_eq_getElem?_getD, ha, hb, Option.getD_some]
theorem get_of_lt {l : List Nat} {i : Nat} (h : i < l.length) : ∃ x, l[i]? = some x := ⟨_, List.getElem?_eq_getElem h⟩
theorem int_at {w : World} {g : Nat} {l : List Nat} (h : Bk w g 3 (vint l).toArray) {i x : Nat} (hx : l[i]? = some x) : w.cell? ⟨g, i, none⟩ = some (.int .i64 (x : Nat)) := by rw [h.cell, List.getElem?_toArray, vint_get hx]
theorem int_put {w : World} {g : Nat} {l : List Nat} (h : Bk w g 3 (vint l).toArray) (i x : Nat) : Bk (w.setCell ⟨g, i, none⟩ (.int .i64 (x : Nat))) g 3 (vint (l.set i x)).toArray := by
  have := h.set_ i (.int .i64 (x : Nat))
  rw [List.setIfInBounds_toArray, vint_set] at this
  exact this
set_option maxRecDepth 100000 in
set_option maxHeartbeats 4000000 in
theorem grow_any (t kb : Nat) (vs : List Value) (keys : List (List Nat)) (z : Value) (w : World) (h0 : Bk w t 211 #[.slice (some ⟨kb, 0, none⟩) keys.length keys.length, z]) (h1 : Bk w kb 63 vs.toArray) (h2 : KeysR w vs keys) (hk : 1 ≤ keys.length) (hm : keys.length ≤ 1000000) :
    Calls Tryz.prog 178 #[.pointer (some ⟨t, 0, none⟩)] w fun e w' => e = .returned (.tuple #[]) ∧ (∃ tb, w.heap.size ≤ tb ∧ TreeAt w' t kb tb vs keys (ofT keys)) ∧ Fr (fun k => k = t) w w' := by
  obtain ⟨k, hkk⟩ : ∃ k, k = keys.length := ⟨_, rfl⟩
  obtain ⟨R, hR⟩ : ∃ R, R = ofT keys := ⟨_, rfl⟩
  rw [← hR]
  unfold ofT at hR
  dsimp only at hR
  rw [← winP_all] at hR
  rw [← hkk] at hk hm h0 hR
  obtain ⟨G, hG⟩ : ∃ G, G = growT keys (k - 1) (winP k k) (List.replicate k 0) := ⟨_, rfl⟩
  rw [← hG] at hR
  obtain ⟨c0, c1⟩ := two_cells h0
  have f1 := h0.free 1
  have hlt := h0.lt
  have hmk1 := fun W => run_ints k (by omega) W
  have hmk2 := fun W => run_ints (2 * k) (by omega) W
  rw [show ((2 * k : Nat) : Int) = 2 * (k : Int) by omega] at hmk2
  have e2 : IntKind.i64.wrap (2 * (k : Int)) = ((2 * k : Nat) : Int) := by rw [IntWalk.i64_in _ ⟨by omega, by omega⟩]; omega
  obtain ⟨W1, hW1⟩ : ∃ W1, W1 = ((w.setCell ⟨t, 1, none⟩ (.slice (some ⟨w.heap.size, 0, none⟩) k k)).alloc (.cells (vint (List.replicate k 0)).toArray 3)).alloc (.cells (vint (List.replicate (2 * k) 0)).toArray 3) := ⟨_, rfl⟩
  have HG := hide hG
  have HR := hide hR
  have HK := hide hkk
  have HW1 := hide hW1
  have H0 := hide h0
  have H1 := hide h1
  have H2 := hide h2
  clear hG hR hkk hW1 h0 h1 h2
  go_enter Tryz.func178, Tryz.ntmps178
  go_upto_region 3 with (fail)
  have hsz : (w.setCell ⟨t, 1, none⟩ (.slice (some ⟨w.heap.size, 0, none⟩) k k)).heap.size = w.heap.size := size_setCell _ _ _
  have hT : TreeAt W1 t kb w.heap.size vs keys (List.replicate k 0) := by
    have hs := H0.out.set_ 1 (.slice (some ⟨w.heap.size, 0, none⟩) k k)
    have hnk := H1.out.ne_ H0.out (by decide)
    rw [HW1.out]
    refine ⟨?_, ((H1.out.far (p := ⟨t, 1, none⟩) hnk _).alloc _).alloc _, H2.out.fr fun v n xs ho => own_keep (own_keep (own_set ho (p := ⟨t, 1, none⟩) (fun e => own_ne ho H0.out (by decide) e.symm) _) (ba1 _ _)) (ba1 _ _), ?_, by rw [List.length_replicate]; exact HK.out, by rw [← HK.out]; exact hm⟩
    · rw [← HK.out]
      exact (Bk.alloc hs _).alloc _
    · have := (Bk.new (w.setCell ⟨t, 1, none⟩ (.slice (some ⟨w.heap.size, 0, none⟩) k k)) 3 (vint (List.replicate k 0)).toArray).alloc (.cells (vint (List.replicate (2 * k) 0)).toArray 3)
      rw [hsz] at this
      exact this
  have hB : Bk W1 (w.heap.size + 1) 3 (vint (winP k 0)).toArray := by
    have := Bk.new1 (w.setCell ⟨t, 1, none⟩ (.slice (some ⟨w.heap.size, 0, none⟩) k k)) (.cells (vint (List.replicate k 0)).toArray 3) 3 (vint (List.replicate (2 * k) 0)).toArray
    rw [hsz] at this
    rw [HW1.out, winP_zero]
    exact this
  have hF : Fr (fun k => k = t) w W1 := by
    rw [HW1.out]
    exact (((Fr.refl (fun k => k = t) w).setCell (p := ⟨t, 1, none⟩) (.inl rfl) _).alloc _).alloc _
  have HT := hide hT
  have HB := hide hB
  have HF := hide hF
  have HWe := hide HW1.out.symm
  rw [HWe.out]
  clear hT hB hF hsz c0 c1 f1 hmk1 hmk2 HW1 H0 H1 H2
  obtain ⟨tb, htb⟩ : ∃ tb, tb = w.heap.size := ⟨_, rfl⟩
  obtain ⟨wb, hwb⟩ : ∃ wb, wb = w.heap.size + 1 := ⟨_, rfl⟩
  rw [← htb] at HT
  rw [← hwb] at HB
  simp only [← hwb]
  have hne : tb ≠ wb := by omega
  have HTb := hide htb
  have HWb := hide hwb
  clear htb hwb HWe
  go_upto_region 4 with (fail)
  go_loopw [24] (fun a wr => ∃ j : Nat, a = .int .i64 j ∧ j ≤ k ∧ Hid (Bk wr wb 3 (vint (winP k j)).toArray) ∧ Hid (TreeAt wr t kb tb vs keys (List.replicate k 0)) ∧ Hid (Fr (fun k => k = t) w wr)) (fun a _ => k - (intOf a).toNat)
  case atStart => exact ⟨0, rfl, Nat.zero_le _, HB, HT, HF⟩
  case round =>
    clear HB HT HF
    obtain ⟨j, rfl, hj, HB, HT, HF⟩ := hrel
    by_cases hlt2 : j < k
    · obtain ⟨x, hx⟩ := get_of_lt (l := winP k j) (i := k + j) (by rw [winP_len _ _ hj]; omega)
      have hc := int_at HB.out hx
      have fz := HB.out.free (k + j)
      have hlb := HB.out.lt
      have e3 : IntKind.i64.wrap ((k : Int) + (j : Int)) = ((k + j : Nat) : Int) := by rw [IntWalk.i64_in _ ⟨by omega, by omega⟩]; omega
      have hput := int_put HB.out (k + j) j
      rw [winP_set hlt2] at hput
      have HP := hide hput
      have hjI : (j : Int) < (k : Int) := by omega
      have hkj : k + j < 2 * k := by omega
      clear hput hx
      go_wp2_with fail
      exact ⟨⟨j + 1, v_int (by omega), by omega, HP, hide (HT.out.farInt HB.out hne _ _), hide (HF.out.setCell (p := ⟨wb, k + j, none⟩) (.inr (by show w.heap.size ≤ wb; rw [HWb.out]; omega)) _)⟩, by simp [intOf]; omega⟩
    · obtain rfl : j = k := by omega
      go_upto_region 9 with (fail)
      go_loopw [5] (fun a wr => ∃ (n : Nat) (win tr : List Nat), a = .int .i64 n ∧ n < j ∧ Hid (G = growT keys n win tr) ∧ Hid (win.length = 2 * j) ∧ Hid (NodesOK j win) ∧ Hid (Bk wr wb 3 (vint win).toArray) ∧ Hid (TreeAt wr t kb tb vs keys tr) ∧ Hid (Fr (fun k => k = t) w wr)) (fun a _ => (intOf a).toNat)
      case atStart => exact ⟨j - 1, winP j j, List.replicate j 0, v_int (by omega), by omega, HG, hide (winP_len _ _ (Nat.le_refl _)), hide (winP_ok hk (Nat.le_refl _)), HB, HT, HF⟩
      case round =>
        clear HG HB HT HF
        obtain ⟨n, win, tr, rfl, hn, HG, HL, HN, HB, HT, HF⟩ := hrel
        obtain ⟨c0, c1⟩ := two_cells HT.out.blk
        rw [← HK.out] at c0 c1
        have hlb := HB.out.lt
        have hlt := HT.out.blk.lt
        have hltb := HT.out.tbk.lt
        by_cases h1 : 1 ≤ n
        · obtain ⟨p, hp⟩ : ∃ p, p = 2 * n := ⟨_, rfl⟩
          obtain ⟨q, hq⟩ : ∃ q, q = 2 * n + 1 := ⟨_, rfl⟩
          have e1 : IntKind.i64.wrap (2 * (n : Int)) = (p : Int) := by rw [IntWalk.i64_in _ ⟨by omega, by omega⟩]; omega
          have e3 : IntKind.i64.wrap ((p : Int) + 1) = (q : Int) := by rw [IntWalk.i64_in _ ⟨by omega, by omega⟩]; omega
          obtain ⟨x, hx⟩ := get_of_lt (l := win) (i := p) (by rw [HL.out]; omega)
          obtain ⟨y, hy⟩ := get_of_lt (l := win) (i := q) (by rw [HL.out]; omega)
          obtain ⟨z1, hz1⟩ := get_of_lt (l := win) (i := n) (by rw [HL.out]; omega)
          obtain ⟨z2, hz2, cz2⟩ := tree_node HT.out (a := n) (by rw [← HK.out]; exact hn)
          have hcx := int_at HB.out hx
          have hcy := int_at HB.out hy
          have cz1 := int_at HB.out hz1
          have hxk := HN.out.at_ hx
          have hyk := HN.out.at_ hy
          have hst := growT_step (keys := keys) (tree := tr) h1 (by rw [← hp]; exact hx) (by rw [← hq]; exact hy)
          have hG := HG.out
          rw [hst] at hG
          have hbe := fun W h => beats_any t kb tb vs keys tr y x W h (by rw [← HK.out]; exact hyk) (by rw [← HK.out]; exact hxk)
          obtain ⟨bb, hbb⟩ : ∃ bb, bb = beatsT keys y x := ⟨_, rfl⟩
          rw [← hbb] at hbe hG
          have f1 := HB.out.free n
          have f2 := HT.out.tbk.free n
          have hpw : p < 2 * j := by omega
          have hqw : q < 2 * j := by omega
          have hnw : n < 2 * j := by omega
          have h1I : (1 : Int) ≤ (n : Int) := by omega
          have HBe := hide hbe
          have hne2 : wb ≠ tb := fun e => hne e.symm
          clear hst hbe hbb hx hy hz1 hz2 hp hq HG
          cases bb with
          | true =>
            rw [if_pos rfl] at hG
            have HG2 := hide hG
            clear hG
            go_wp2_with fail
            go_quiet (fail)
            go_wp2_with (go_at_call 179; refine (Calls.mono (HBe.out _ (HT.out.drewN _)) ?_); rintro e w1 ⟨rfl, m, rfl⟩)
            exact ⟨⟨n - 1, win.set n y, tr.set n x, v_int (by omega), by omega, HG2, hide (by rw [List.length_set]; exact HL.out), hide (HN.out.set_ n hyk), hide (Bk.far (int_put (HB.out.drewN _) n y) (p := ⟨tb, n, none⟩) hne2 _), hide (((HT.out.drewN _).farInt (HB.out.drewN _) hne n _).put n x), hide (((HF.out.drewN _).setCell (p := ⟨wb, n, none⟩) (.inr (by show w.heap.size ≤ wb; rw [HWb.out]; omega)) _).setCell (p := ⟨tb, n, none⟩) (.inr (by show w.heap.size ≤ tb; rw [HTb.out]; exact Nat.le_refl _)) _)⟩, by simp [intOf]; omega⟩
          | false =>
            rw [if_neg (by decide)] at hG
            have HG2 := hide hG
            clear hG
            go_wp2_with fail
            go_quiet (fail)
            go_wp2_with (go_at_call 179; refine (Calls.mono (HBe.out _ (HT.out.drewN _)) ?_); rintro e w1 ⟨rfl, m, rfl⟩)
            exact ⟨⟨n - 1, win.set n x, tr.set n y, v_int (by omega), by omega, HG2, hide (by rw [List.length_set]; exact HL.out), hide (HN.out.set_ n hxk), hide (Bk.far (int_put (HB.out.drewN _) n x) (p := ⟨tb, n, none⟩) hne2 _), hide (((HT.out.drewN _).farInt (HB.out.drewN _) hne n _).put n y), hide (((HF.out.drewN _).setCell (p := ⟨wb, n, none⟩) (.inr (by show w.heap.size ≤ wb; rw [HWb.out]; omega)) _).setCell (p := ⟨tb, n, none⟩) (.inr (by show w.heap.size ≤ tb; rw [HTb.out]; exact Nat.le_refl _)) _)⟩, by simp [intOf]; omega⟩
        · obtain rfl : n = 0 := by omega
          have hG := HG.out
          rw [growT] at hG
          have hR := HR.out
          rw [hG] at hR
          dsimp only at hR
          by_cases hk1 : 1 < j
          · rw [if_pos hk1] at hR
            obtain ⟨x, hx⟩ := get_of_lt (l := win) (i := 1) (by rw [HL.out]; omega)
            rw [List.getD_eq_getElem?_getD, hx, Option.getD_some] at hR
            have hcx := int_at HB.out hx
            obtain ⟨z2, hz2, cz2⟩ := tree_node HT.out (a := 0) (by rw [← HK.out]; omega)
            have f2 := HT.out.tbk.free 0
            have hput := HT.out.put 0 x
            have hk1I : (1 : Int) < (j : Int) := by omega
            have hp1 : 1 < 2 * j := by omega
            have HR2 := hide hR
            clear hG hR hx hz2 HG hput
            go_wp2_with fail
            go_region
            all_goals go_wp2_with fail
            all_goals go_end0
            all_goals exact ⟨rfl, ⟨tb, by rw [HTb.out]; exact Nat.le_refl _, by rw [HR2.out]; exact (HT.out.drewN 1).put 0 x⟩, (HF.out.drewN 1).setCell (p := ⟨tb, 0, none⟩) (.inr (by show w.heap.size ≤ tb; rw [HTb.out]; exact Nat.le_refl _)) _⟩
          · rw [if_neg hk1] at hR
            have hk1I : ¬ (1 : Int) < (j : Int) := by omega
            have HR2 := hide hR
            clear hG hR HG
            go_wp2_with fail
            go_end0
            exact ⟨rfl, ⟨tb, by rw [HTb.out]; exact Nat.le_refl _, by rw [HR2.out]; exact HT.out⟩, HF.out⟩
set_option maxRecDepth 100000 in
theorem of_any (kb : Nat) (vs : List Value) (keys : List (List Nat)) (w : World) (h1 : Bk w kb 63 vs.toArray) (h2 : KeysR w vs keys) (hk : 1 ≤ keys.length) (hm : keys.length ≤ 1000000) :
    Calls Tryz.prog 136 #[.slice (some ⟨kb, 0, none⟩) keys.length keys.length] w fun e w' => ∃ t tb, e = .returned (.pointer (some ⟨t, 0, none⟩)) ∧ w.heap.size ≤ t ∧ w.heap.size ≤ tb ∧ TreeAt w' t kb tb vs keys (ofT keys) ∧ Below w.heap.size w w' := by
  obtain ⟨W1, hW1⟩ : ∃ W1, W1 = w.alloc (.cells #[.slice (some ⟨kb, 0, none⟩) keys.length keys.length, .slice none 0 0] 211) := ⟨_, rfl⟩
  have hb1 : Below w.heap.size w W1 := by rw [hW1]; exact ba1 _ _
  have hg := grow_any w.heap.size kb vs keys (.slice none 0 0) W1 (by rw [hW1]; exact Bk.new _ _ _) (h1.keep hb1) (h2.fr fun v n xs ho => own_keep ho hb1) hk hm
  obtain ⟨k, hkk⟩ : ∃ k, k = keys.length := ⟨_, rfl⟩
  rw [← hkk] at hW1 ⊢
  have HG := hide hg
  have HB1 := hide hb1
  have HW1 := hide hW1
  have HK := hide hkk
  clear hg hb1 hW1 hkk h1 h2 hk hm
  go_enter Tryz.func136, Tryz.ntmps136
  go_wp2_with (rw [← HW1.out]; go_at_call 178; refine (Calls.mono HG.out ?_); rintro e w1 ⟨rfl, ⟨tb, htb, hT⟩, hF⟩; have HT := hide hT; have HF := hide hF; have HTb := hide htb; clear hT hF htb)
  go_ret
  exact ⟨w.heap.size, tb, rfl, Nat.le_refl _, Nat.le_trans HB1.out.size HTb.out, HT.out, HB1.out.trans (HF.out.toBelowB (fun k hk => by rw [hk]; exact Nat.le_refl _) HB1.out.size)⟩
end Go.Proofs.YtmopegpkoedgbaaGreatDoor
