/- Walk: pack.count. -/
import Derived.Test.YtggffiikfelbjaaBackward
namespace Go.Proofs.Ytggffiikfelbjaa
open Go.RowKit Go.Shelf

attribute [local go_sem] Oper.semAt_some

/-- One more at a leaf. -/
def bump1 (c : List Nat) (x : It) : List Nat := if 0 ≤ x.leaf then c.set x.leaf.toNat (c.getD x.leaf.toNat 0 + 1) else c
def bump (c : List Nat) (l : List It) : List Nat := l.foldl bump1 c
/-- How many packages there are. -/
def pkN (l : List It) : Nat := (l.filter fun x => decide (x.leaf < 0)).length
/-- One level is gone through: how many of the next one, how often each leaf. -/
def stepC (s : Nat × List Nat) (l : List It) : Nat × List Nat := (2 * pkN (l.take s.1), bump s.2 (l.take s.1))
/-- The first k levels of those (the last one first). -/
def stC (n : Nat) (ls : List (List It)) : Nat × List Nat := ls.foldl stepC (2 * n - 2, List.replicate n 0)
/-- The levels' values. -/
def LvV (w : World) (B : Nat) (lvs : List (List It)) (vs : List Value) : Prop :=
  vs.length = lvs.length ∧ ∀ (j : Nat) l, lvs[j]? = some l → ∃ A c, vs[j]? = some (.slice A l.length c) ∧ l.length ≤ c ∧ RdI w B A l

theorem bump_snoc (c : List Nat) (l : List It) (x : It) : bump c (l ++ [x]) = bump1 (bump c l) x := by unfold bump; rw [List.foldl_append]; rfl
theorem bump1_length (c : List Nat) (x : It) : (bump1 c x).length = c.length := by unfold bump1; split <;> simp
theorem bump_length (c : List Nat) (l : List It) : (bump c l).length = c.length := by
  induction l generalizing c with
  | nil => rfl
  | cons x l ih => show (bump (bump1 c x) l).length = _; rw [ih, bump1_length]
theorem pkN_snoc (l : List It) (x : It) : pkN (l ++ [x]) = pkN l + (if x.leaf < 0 then 1 else 0) := by
  unfold pkN
  rw [List.filter_append, List.length_append]
  congr 1
  by_cases h : x.leaf < 0
  · rw [if_pos h, List.filter_cons, if_pos (decide_eq_true h)]; rfl
  · rw [if_neg h, List.filter_cons, if_neg (by rw [decide_eq_false h]; decide)]; rfl
theorem pkN_le (l : List It) : pkN l ≤ l.length := List.length_filter_le _ _
theorem bump1_le {c : List Nat} {x : It} {K : Nat} (h : ∀ y ∈ c, y ≤ K) : ∀ y ∈ bump1 c x, y ≤ K + 1 := by
  intro y hy
  unfold bump1 at hy
  split at hy
  · rcases List.mem_or_eq_of_mem_set hy with hy | rfl
    · have := h y hy; omega
    · rw [List.getD_eq_getElem?_getD]
      cases hg : c[x.leaf.toNat]? with
      | none => simp
      | some z => have := h z (List.mem_of_getElem? hg); simp; omega
  · have := h y hy; omega
theorem bump_le {l : List It} : ∀ {c : List Nat} {K : Nat}, (∀ y ∈ c, y ≤ K) → ∀ y ∈ bump c l, y ≤ K + l.length := by
  induction l with
  | nil => intro c K h y hy; exact h y hy
  | cons x l ih =>
    intro c K h y hy
    have := ih (bump1_le (x := x) h) y hy
    rw [List.length_cons]; omega
theorem stC_snoc (m : Nat) (ls : List (List It)) (l : List It) : stC m (ls ++ [l]) = stepC (stC m ls) l := by unfold stC; rw [List.foldl_append]; rfl
theorem stC_length (m : Nat) (ls : List (List It)) : (stC m ls).2.length = m := by
  unfold stC
  have : ∀ (s : Nat × List Nat), (ls.foldl stepC s).2.length = s.2.length := by
    induction ls with
    | nil => intro s; rfl
    | cons l ls ih => intro s; rw [List.foldl_cons, ih]; show (bump s.2 _).length = _; rw [bump_length]
  rw [this]; simp
theorem stC_le (m : Nat) (ls : List (List It)) (h : ∀ l ∈ ls, l.length ≤ 1024) : ∀ y ∈ (stC m ls).2, y ≤ 1024 * ls.length := by
  unfold stC
  have : ∀ (ls : List (List It)) (s : Nat × List Nat) (K : Nat), (∀ l ∈ ls, l.length ≤ 1024) → (∀ y ∈ s.2, y ≤ K) → ∀ y ∈ (ls.foldl stepC s).2, y ≤ K + 1024 * ls.length := by
    intro ls
    induction ls with
    | nil => intro s K _ hs y hy; exact hs y hy
    | cons l ls ih =>
      intro s K hl hs y hy
      rw [List.foldl_cons] at hy
      have h1 : ∀ y ∈ (stepC s l).2, y ≤ K + 1024 := fun y hy => by
        have := bump_le hs y hy
        have h2 := hl l (by simp)
        rw [List.length_take] at this; omega
      have := ih (stepC s l) (K + 1024) (fun l hl' => hl l (List.mem_cons_of_mem _ hl')) h1 y hy
      rw [List.length_cons]; omega
  intro y hy
  have := this ls _ 0 h (fun y hy => by rw [List.mem_replicate] at hy; omega) y hy
  omega
/-- A row's cells go through what turns no cells. -/
theorem bk_from {β : Type} (B g : Nat) (t : TypeId) (cs : β → Array Value) : OwnFrom B (fun (k : β) (W : World) => Bk W g t (cs k)) := by
  intro k A W row hs hg hr
  refine Bk.grown hs hg ?_
  intro e
  obtain ⟨_, o, ho, hc⟩ := hr g e.symm
  unfold Bk at hs
  rw [hs] at ho
  cases ho
  exact absurd hc (by simp [Obj.isCells])

set_option maxRecDepth 100000 in
set_option maxHeartbeats 8000000 in
theorem count_in (F : Fence) (n : Nat) (h53 : F.fn 53) (h68 : F.fn 68) (h72 : F.fn 72) (hro : F.round = none) (hn : 3 ≤ n)
    (b off cap m : Nat) (lvs : List (List It)) (vs : List Value) (w : World) (hb : b < w.heap.size) (hv : ∀ j v, vs[j]? = some v → w.cell? ⟨b, off + j, none⟩ = some v) (hlv : LvV w w.heap.size lvs vs) (hm : m ≤ 512) (hm2 : 2 ≤ m) (hk : lvs.length ≤ 15)
    (hll : ∀ l ∈ lvs, l.length ≤ 1024 ∧ ∀ x ∈ l, x.leaf < (m : Int)) (hst : ∀ k l, lvs.reverse[k]? = some l → (stC m (lvs.reverse.take k)).1 ≤ l.length) :
    CallsIn F n Try.prog 53 #[.slice (some ⟨b, off, none⟩) vs.length cap, .int .i64 m] w fun e w' => ∃ A c, e = .returned (.slice A m c) ∧ Rd w' w'.heap.size A ((stC m lvs.reverse).2.map fun (x : Nat) => Value.int .i64 x) ∧ (∀ a, A = some a → w.heap.size ≤ a.block) ∧ Below w.heap.size w w' := by
  have h1 : 1 ≤ n := by omega
  have hmk := run_make_row' (P := Try.prog) 22 3 (.int .i64 0) 8 Try.underlying22 info_int rfl .i64 .i64 m (by omega) (by omega)
  have HV := hide hv
  have HLV := hide hlv
  have HLL := hide hll
  have HST := hide hst
  clear hv hlv hll hst
  refine callsIn_of_wp_marks Try.func53 rfl h53 ?_ hro
  simp only [Try.ntmps53, List.size_toArray, List.length_cons, List.length_nil, Nat.reduceAdd, Nat.reduceSub, Array.replicate_succ, Array.replicate_zero, List.push_toArray, List.append_toArray, List.nil_append, List.cons_append]
  gi_wp2_with (gi_at_call 68; refine (backward_in F (n - 1) h68 hro _ _ _ _).mono ?_; rintro e w' ⟨rfl, rfl⟩)
  obtain ⟨W0, hW0⟩ : ∃ W0, W0 = ((((w.alloc (.cells (madeCells #[.int .i64 0] m) 3)).alloc (.cells #[.slice (some ⟨w.heap.size, 0, none⟩) m m] 22)).alloc (.cells #[.int .i64 (2 * (m : Int) - 2)] 3)).alloc (.cells #[.slice (some ⟨b, off, none⟩) vs.length cap] 83)) := ⟨_, rfl⟩
  have bG : Bk W0 w.heap.size 3 (madeCells #[.int .i64 0] m) := by rw [hW0]; exact (((Bk.new w _ _).alloc _).alloc _).alloc _
  have b5 : Bk W0 (w.heap.size + 1) 22 #[.slice (some ⟨w.heap.size, 0, none⟩) m m] := by rw [hW0]; exact ((Bk.new1 w _ _ _).alloc _).alloc _
  have b6 : Bk W0 (w.heap.size + 1 + 1) 3 #[.int .i64 (2 * (m : Int) - 2)] := by rw [hW0]; exact (Bk.new2 w _ _ _ _).alloc _
  have b7 : W0.cell? ⟨w.heap.size + 1 + 1 + 1, 0, none⟩ = some (.slice (some ⟨b, off, none⟩) vs.length cap) := by
    have := Bk.new (((w.alloc (.cells (madeCells #[.int .i64 0] m) 3)).alloc (.cells #[.slice (some ⟨w.heap.size, 0, none⟩) m m] 22)).alloc (.cells #[.int .i64 (2 * (m : Int) - 2)] 3)) 83 #[.slice (some ⟨b, off, none⟩) vs.length cap]
    rw [hW0]
    have e := this.cell 0
    simpa using e
  have hz0 : W0.heap.size = w.heap.size + 4 := by rw [hW0]; simp
  have be0 : Below w.heap.size w W0 := by rw [hW0]; exact (((((Below.refl _ _).alloc (Nat.le_refl _) _).alloc (by simp) _).alloc (by simp; omega) _).alloc (by simp; omega) _)
  rw [← hW0]
  clear hW0 hmk
  refine range_pos hro h1 (gf := 72) (lb := #[.pointer (some ⟨w.heap.size + 1 + 1 + 1, 0, none⟩)]) rfl h72 (enters_of Try.func72 (by kernel_rfl) rfl)
    (S := fun k => k = w.heap.size ∨ k = w.heap.size + 1 + 1 ∨ w.heap.size + 4 ≤ k) (fun _ => rfl) (fun k hk => .inr (.inr (by omega)))
    (backward_seq F (n - 1) h72 hro (by omega) _ (w.heap.size + 1 + 1 + 1) b off cap vs W0 (by have := HLV.out.1; omega) (by omega) (by omega) (by omega) (by omega) b7 (fun j v hj => (be0.cell (p := ⟨b, off + j, none⟩) hb).trans (HV.out j v hj)))
    (fun k W => Bk W w.heap.size 3 (((stC m (lvs.reverse.take k)).2.map fun (x : Nat) => Value.int .i64 x).toArray) ∧ Bk W (w.heap.size + 1) 22 #[.slice (some ⟨w.heap.size, 0, none⟩) m m] ∧ Bk W (w.heap.size + 1 + 1) 3 #[.int .i64 ((stC m (lvs.reverse.take k)).1 : Nat)] ∧ Below w.heap.size w W)
    (OwnFrom.and (bk_from _ _ _ _) (OwnFrom.and (bk_from _ _ _ (fun _ => _)) (OwnFrom.and (bk_from _ _ _ _) (ownFrom_below (Nat.le_refl _) (by omega)))))
    ⟨?s1, b5, ?s2, be0⟩
    (fun k => { tmps := #[.slice (some ⟨b, off, none⟩) vs.length cap, .int .i64 m, undef, undef, .slice none 0 0, .pointer (some ⟨w.heap.size + 1, 0, none⟩), .pointer (some ⟨w.heap.size + 1 + 1, 0, none⟩), undef, vs.getD (vs.length - 1 - k) .nilIface, undef, undef, undef, .int .i64 m, .slice (some ⟨w.heap.size, 0, none⟩) m m, .int .i64 m, .int .i64 (2 * (m : Int)), .int .i64 (2 * (m : Int) - 2), .slice (some ⟨b, off, none⟩) vs.length cap, .func (.func 72) #[] #[.pointer (some ⟨w.heap.size + 1 + 1 + 1, 0, none⟩)], .int .i64 ((vs.length - 1 - k : Nat) : Int), vs.getD (vs.length - 1 - k) .nilIface, undef, undef, undef, undef, undef, undef, undef, undef, undef, undef, undef, undef, undef, undef, undef, undef, undef, undef, undef, undef, undef, undef, undef, undef], defers := [] }) ?assign ?body ?done
  case s1 =>
    have : (((stC m (lvs.reverse.take 0)).2.map fun (x : Nat) => Value.int .i64 x).toArray) = madeCells #[.int .i64 0] m := by
      apply Array.ext
      · simp [stC, size_madeCells]
      · intro i h1 h2; simp [madeCells, stC, Nat.mod_one]
    rw [this]; exact bG
  case s2 =>
    have : ((stC m (lvs.reverse.take 0)).1 : Int) = 2 * (m : Int) - 2 := by simp [stC]; omega
    rw [this]; exact b6
  case assign =>
    intro l k W K hK
    gi_wp2
    exact hK
  case body =>
    rintro lr k W hk2 ⟨i1, i2, i3, i4⟩
    have hvl := HLV.out.1
    obtain ⟨q, hq⟩ : ∃ q, q = vs.length - 1 - k := ⟨_, rfl⟩
    obtain ⟨l, hl⟩ : ∃ l, lvs[q]? = some l := ⟨lvs[q]'(by omega), by simp⟩
    have hrev : lvs.reverse[k]? = some l := by rw [List.getElem?_reverse (by omega), ← hl]; congr 1; omega
    obtain ⟨A, c, hvq, hlc, hrd⟩ := HLV.out.2 q l hl
    have hget : vs.getD (vs.length - 1 - k) .nilIface = .slice A l.length c := by rw [← hq, List.getD_eq_getElem?_getD, hvq]; rfl
    rw [hget]
    obtain ⟨n0, hn0⟩ : ∃ n0, n0 = (stC m (lvs.reverse.take k)).1 := ⟨_, rfl⟩
    obtain ⟨c0, hc0⟩ : ∃ c0, c0 = (stC m (lvs.reverse.take k)).2 := ⟨_, rfl⟩
    have hn0l : n0 ≤ l.length := by rw [hn0]; exact HST.out k l hrev
    have hlm := HLL.out l (List.mem_of_getElem? hl)
    have hstep : stC m (lvs.reverse.take (k + 1)) = (2 * pkN (l.take n0), bump c0 (l.take n0)) := by
      rw [List.take_add_one, hrev]
      show stC m (lvs.reverse.take k ++ [l]) = _
      rw [stC_snoc, hn0, hc0]; rfl
    have hc0l : c0.length = m := by rw [hc0]; exact stC_length _ _
    have hc0b : ∀ y ∈ c0, y ≤ 20000 := fun y hy => by
      rw [hc0] at hy
      have := stC_le m (lvs.reverse.take k) (fun l' hl' => (HLL.out l' (by have := List.mem_of_mem_take hl'; simpa using this)).1) y hy
      have h2 : (lvs.reverse.take k).length ≤ 15 := by rw [List.length_take]; simp; omega
      omega
    rw [← hn0] at i3
    rw [← hc0] at i1
    have HStep := hide hstep
    have HC0 := hide (And.intro hc0l hc0b)
    have HRd := hide hrd
    have HLm := hide hlm
    have p6 := i3.cell 0
    simp at p6
    have hn2 : 1 ≤ n - 1 - 1 := by omega
    have hll2 : l.length ≤ 1024 := hlm.1
    have HI := hide (And.intro i1 (And.intro i2 (And.intro i3 i4)))
    clear hget hvq hrev hl hq hn0 hc0 hstep hc0l hc0b hrd hlm i1 i2 i3 i4
    gi_wp2
    gi_loopw [9, 25] (fun vp vt wx => ∃ (t P : Nat), t ≤ n0 ∧ P ≤ t ∧ vp = .int .i64 P ∧ vt = .int .i64 t ∧ Hid (P = pkN (l.take t)) ∧ Hid (Bk wx w.heap.size 3 (((bump c0 (l.take t)).map fun (x : Nat) => Value.int .i64 x).toArray)) ∧ Hid (Bk wx (w.heap.size + 1) 22 #[.slice (some ⟨w.heap.size, 0, none⟩) m m]) ∧ Hid (Bk wx (w.heap.size + 1 + 1) 3 #[.int .i64 n0]) ∧ Hid (Below w.heap.size w wx) ∧ Hid (KeepsOthers W wx) ∧ Hid (Fr (fun k => k = w.heap.size ∨ k = w.heap.size + 1 + 1 ∨ w.heap.size + 4 ≤ k) W wx)) (fun _ vt _ => n0 - (intOf vt).toNat)
    case atStart => exact ⟨0, 0, by omega, by omega, rfl, rfl, hide (by simp [pkN]), hide (by have := HI.out.1; simpa [bump] using this), hide HI.out.2.1, hide HI.out.2.2.1, hide HI.out.2.2.2, hide (KeepsOthers.refl _), hide (Fr.refl _ _)⟩
    case round =>
      clear HI p6
      obtain ⟨t, P, ht, hPt, rfl, rfl, hP, HG, H5, H6, HB, HK, HF⟩ := hrel
      have hsz := HB.out.size
      by_cases hlt : t < n0
      · obtain ⟨x, hx⟩ : ∃ x, l[t]? = some x := ⟨l[t]'(by omega), by simp⟩
        obtain ⟨b2, o2, hA2, hb2, x0, x1, x2⟩ := HRd.out.at_ hx
        subst hA2
        have z0 := (HB.out.cell (p := ⟨b2, o2 + t * 3, none⟩) hb2).trans x0
        have z1 := (HB.out.cell (p := ⟨b2, o2 + t * 3 + 1, none⟩) hb2).trans x1
        have z2 := (HB.out.cell (p := ⟨b2, o2 + t * 3 + 2, none⟩) hb2).trans x2
        have hxm := HLm.out.2 x (List.mem_of_getElem? hx)
        have htk : l.take (t + 1) = l.take t ++ [x] := by rw [List.take_add_one, hx]; rfl
        have HTk := hide htk
        have hc := bump_length c0 (l.take t)
        rw [HC0.out.1] at hc
        have HCl := hide hc
        have g5 := H5.out.cell 0
        simp at g5
        obtain ⟨xw, xl, xf⟩ := x
        simp only at z0 z1 z2 hxm
        clear x0 x1 x2 hx htk hc
        by_cases hl0 : 0 ≤ xl
        · obtain ⟨la, rfl⟩ := Int.eq_ofNat_of_zero_le hl0
          have dl : decide ((0 : Int) ≤ (la : Int)) = true := decide_eq_true (by omega)
          have hla : la < m := by omega
          obtain ⟨y, hy⟩ : ∃ y, (bump c0 (l.take t))[la]? = some y := ⟨(bump c0 (l.take t))[la]'(by have := HCl.out; omega), by simp⟩
          have hyb : y ≤ 40000 := by
            have := bump_le (l := l.take t) HC0.out.2 y (List.mem_of_getElem? hy)
            rw [List.length_take] at this; omega
          have gG : wr.cell? ⟨w.heap.size, la, none⟩ = some (.int .i64 y) := (HG.out.cell la).trans (by rw [List.getElem?_toArray, List.getElem?_map, hy]; rfl)
          have gF := HG.out.free la
          have hgl := HG.out.lt
          have h5l := H5.out.lt
          have HY := hide hy
          clear hy
          gi_wp2
          go_roundw
          case rel =>
            refine ⟨t + 1, P, by omega, by omega, rfl, by go_num, hide ?_, hide ?_, hide ?_, hide ?_, hide ?_, hide ?_, hide ?_⟩
            · rw [HTk.out, pkN_snoc, if_neg (by show ¬ (la : Int) < 0; omega), hP.out]; rfl
            · have := (HG.out.set_ la (.int .i64 ((y : Int) + 1))).alloc (.cells #[.int .u64 xw, .int .i64 la, .int .i64 xf] 104)
              rw [HTk.out, bump_snoc]
              unfold bump1
              rw [if_pos (by show (0 : Int) ≤ (la : Int); omega)]
              show Bk _ _ _ (((bump c0 (l.take t)).set la ((bump c0 (l.take t)).getD la 0 + 1)).map _).toArray
              rw [List.getD_eq_getElem?_getD, HY.out, List.map_set, ← List.setIfInBounds_toArray]
              exact this
            · exact (H5.out.far (p := ⟨w.heap.size, la, none⟩) (by show w.heap.size + 1 ≠ w.heap.size; omega) _).alloc _
            · exact (H6.out.far (p := ⟨w.heap.size, la, none⟩) (by show w.heap.size + 1 + 1 ≠ w.heap.size; omega) _).alloc _
            · exact (HB.out.setCell (p := ⟨w.heap.size, la, none⟩) (Nat.le_refl _) _).alloc (by simpa using hsz) _
            · exact (HK.out.trans (KeepsOthers.setCell _ _ _)).trans (KeepsOthers.alloc _ _)
            · exact (HF.out.setCell (p := ⟨w.heap.size, la, none⟩) (.inl (.inl rfl)) _).alloc _
          case measure => simp [intOf]; omega
        · have dl : decide ((0 : Int) ≤ xl) = false := decide_eq_false hl0
          gi_wp2
          go_roundw
          case rel =>
            refine ⟨t + 1, P + 1, by omega, by omega, by go_num, by go_num, hide ?_, hide ?_, hide (H5.out.alloc _), hide (H6.out.alloc _), hide (HB.out.alloc hsz _), hide (HK.out.trans (KeepsOthers.alloc _ _)), hide (HF.out.alloc _)⟩
            · rw [HTk.out, pkN_snoc, if_pos (by show xl < 0; omega), hP.out]
            · rw [HTk.out, bump_snoc]
              unfold bump1
              rw [if_neg (by show ¬ (0 : Int) ≤ xl; exact hl0)]
              exact HG.out.alloc _
          case measure => simp [intOf]; omega
      · obtain rfl : t = n0 := by omega
        have h6c := H6.out.cell 0
        simp at h6c
        have h6f := H6.out.free 0
        gi_wp2
        refine ⟨HK.out.trans (KeepsOthers.setCell _ _ _), HF.out.setCell (.inl (.inr (.inl rfl))) _, ?_, ?_, ?_, ?_⟩
        · rw [HStep.out]; exact HG.out.far (by show w.heap.size ≠ w.heap.size + 1 + 1; omega) _
        · exact H5.out.far (by show w.heap.size + 1 ≠ w.heap.size + 1 + 1; omega) _
        · rw [HStep.out, ← hP.out]
          have := H6.out.set_ 0 (.int .i64 ((2 * P : Nat) : Int))
          simpa using this
        · exact HB.out.setCell (by simp; omega) _
  case done =>
    rintro D W hD ⟨i1, i2, i3, i4⟩ hK
    have hvl := HLV.out.1
    have p5 := i2.cell 0
    simp at p5
    have HI1 := hide i1
    clear i1 i2 i3
    gi_wp2
    refine ⟨by simp, .inl ⟨_, _, rfl, run_takeDeferred hK, ?_⟩⟩
    refine ⟨_, results_tmp rfl _ _ _, some ⟨w.heap.size, 0, none⟩, m, rfl, ?_, (fun a ha => by cases ha; exact Nat.le_refl _), i4.trans (belowK_b (w := w) (Nat.le_refl _) W D _ _ (by omega) hK rfl rfl)⟩
    have i1 := HI1.out
    rw [hvl, List.take_of_length_le (by simp)] at i1
    have i5 := i1.grown (grownBy_putObj' W D (.deferred none)) (by intro e; cases e; omega)
    intro i u hu
    exact ⟨w.heap.size, 0, rfl, i5.lt, by rw [Nat.zero_add, i5.cell i, List.getElem?_toArray]; exact hu⟩
#print axioms count_in
end Go.Proofs.Ytggffiikfelbjaa
