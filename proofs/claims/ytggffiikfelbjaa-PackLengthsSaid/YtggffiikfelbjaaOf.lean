/- Walk: canon.Of. -/
import Derived.Test.YtggffiikfelbjaaCodesPlain
import Derived.Deep.OwnRows
namespace Go.Proofs.Ytggffiikfelbjaa
open Go.RowKit

theorem info_int : (Try.prog.info? 3).map (fun i => (i.zero, i.size, i.bytes)) = some (some (.int .i64 0), 1, 8) := by kernel_rfl
theorem info_u64 : (Try.prog.info? 23).map (fun i => (i.zero, i.size, i.bytes)) = some (some (.int .u64 0), 1, 8) := by kernel_rfl

theorem symC_length_le (ls : List Int) (l : Nat) : (symC ls l).length ≤ l * ls.length := by
  induction l with
  | zero => simp [symC]
  | succ l ih =>
    have h1 := idxT_length ls (l + 1) ls.length (Nat.le_refl _)
    have h2 := cntT_le ls (l + 1) ls.length
    rw [symC, List.length_append, Nat.add_mul]
    unfold idxC; omega
theorem codP_all (ls : List Int) (j : Nat) : codP ls 16 0 j = (codeN ls j : Nat) := by
  unfold codP
  by_cases h0 : lenN ls j = 0
  · rw [if_pos h0, codeN, if_neg (by omega)]; rfl
  · rw [if_neg h0]
    by_cases h : lenN ls j < 16
    · rw [if_pos (by omega)]
    · rw [if_neg (by omega), codeN, if_neg (by omega)]; rfl
theorem own_form' {w : World} {base e n : Nat} {v : Value} {xs : List Value} (h : w.ownsRow base e 1 v n xs) : ∃ A c, v = .slice A n c ∧ Rd w w.heap.size A xs := by
  rcases h.2 with ⟨rfl, rfl⟩ | ⟨g, cap, cur, rfl, _⟩
  · exact ⟨none, 0, rfl, own_rd h⟩
  · exact ⟨_, cap, rfl, own_rd h⟩

/-- The codes at work that lie at p, made before block B: of the lengths ls, which lie at A. -/
def Book (w : World) (B p : Nat) (ls : List Int) (A : Option Addr) (c : Nat) : Prop := ∃ (As : Option Addr) (cs : Nat) (Ac : Option Addr) (cc : Nat),
  Bk w p 60 (bookC (tab 16 (cntP ls 16 0)) (tab 16 (fstP ls 15)) (.slice As (symC ls 15).length cs) (.slice Ac ls.length cc) (.slice A ls.length c)) ∧ p < B ∧
  Rd w B As ((symC ls 15).map fun j => .int .i64 (j : Nat)) ∧ Rd w B Ac ((tab ls.length fun j => (codeN ls j : Nat)).map (.int .u64)) ∧ Rd w B A (ls.map (.int .i64))

/-- What lies in memory while the book is filled in: length l's first i symbols are done, the first codes up to length lf. -/
def OfSt (w wr : World) (A : Option Addr) (c : Nat) (ls : List Int) (C P l lf i : Nat) (sv : Value) : Prop :=
  Bk wr P 60 (bookC (tab 16 (cntP ls l i)) (tab 16 (fstP ls lf)) sv (.slice (some ⟨C, 0, none⟩) ls.length ls.length) (.slice A ls.length c)) ∧
  Bk wr C 23 ((tab ls.length (codP ls l i)).map (Value.int .u64)).toArray ∧
  wr.ownsRow w.heap.size 3 1 sv (symC ls (l - 1) ++ idxT ls l i).length ((symC ls (l - 1) ++ idxT ls l i).map fun j => .int .i64 (j : Nat)) ∧
  Below w.heap.size w wr ∧ w.heap.size ≤ C ∧ w.heap.size ≤ P

section
variable {w wr : World} {A : Option Addr} {c : Nat} {ls : List Int} {C P l lf i : Nat} {sv : Value}
theorem OfSt.ne (h : OfSt w wr A c ls C P l lf i sv) : C ≠ P ∧ sv.ownBlock ≠ some P ∧ sv.ownBlock ≠ some C :=
  ⟨Bk.ne_ h.2.1 h.1 (by decide), fun e => own_ne h.2.2.1 h.1 (by decide) e.symm, fun e => own_ne h.2.2.1 h.2.1 (by decide) e.symm⟩
theorem OfSt.cells (h : OfSt w wr A c ls C P l lf i sv) : wr.cell? ⟨P, 32, none⟩ = some sv ∧ wr.cell? ⟨P, 33, none⟩ = some (.slice (some ⟨C, 0, none⟩) ls.length ls.length) ∧ wr.cell? ⟨P, 34, none⟩ = some (.slice A ls.length c) := by
  obtain ⟨a, b, d⟩ := bookC_tail (cnt := tab 16 (cntP ls l i)) (fst := tab 16 (fstP ls lf)) (v := sv) (cv := .slice (some ⟨C, 0, none⟩) ls.length ls.length) (lv := .slice A ls.length c) (by simp) (by simp)
  exact ⟨(h.1.cell 32).trans a, (h.1.cell 33).trans b, (h.1.cell 34).trans d⟩
theorem OfSt.first (h : OfSt w wr A c ls C P l (l - 1) 0 sv) (h1 : 1 ≤ l) (h15 : l ≤ 15) : OfSt w (wr.setCell ⟨P, 16 + l, none⟩ (.int .u64 (fstC ls l : Nat))) A c ls C P l l 0 sv := by
  obtain ⟨hn1, hn2, hn3⟩ := h.ne
  refine ⟨?_, h.2.1.far hn1 _, own_set h.2.2.1 hn2 _, h.2.2.2.1.setCell h.2.2.2.2.2 _, h.2.2.2.2⟩
  have := h.1.set_ (16 + l) (.int .u64 (fstC ls l : Nat))
  rw [bookC_setFst (by simp) (by simp) l (by omega), fstP_next ls l h1 h15] at this
  exact this
theorem OfSt.next (h : OfSt w wr A c ls C P l l ls.length sv) (h1 : 1 ≤ l) : OfSt w wr A c ls C P (l + 1) (l + 1 - 1) 0 sv := by
  obtain ⟨a, b, d, r⟩ := h
  rw [cntP_next ls l h1] at a
  rw [codP_next] at b
  refine ⟨a, b, ?_, r⟩
  obtain ⟨k, rfl⟩ : ∃ k, l = k + 1 := ⟨l - 1, by omega⟩
  rw [show k + 1 + 1 - 1 = k + 1 by omega, symC, idxT_zero, List.append_nil]
  exact d
/-- A symbol that has another length: nothing is written. -/
theorem OfSt.miss (h : OfSt w wr A c ls C P l l i sv) (h1 : 1 ≤ l) {x : Int} (hx : ls[i]? = some x) (hn : ¬ x = (l : Int)) : OfSt w wr A c ls C P l l (i + 1) sv := by
  obtain ⟨a, b, d, r⟩ := h
  refine ⟨by rw [cntP_miss hx hn]; exact a, by rw [codP_miss h1 hx hn]; exact b, ?_, r⟩
  rw [idxT_step hx, if_neg hn, List.append_nil]; exact d
/-- A symbol that has this length: its code, its place, and the count are written. -/
theorem OfSt.hit (h : OfSt w wr A c ls C P l l i sv) (h1 : 1 ≤ l) (h15 : l ≤ 15) (hx : ls[i]? = some (l : Int)) {X : Obj} {w2 : World} {sv' : Value}
    (hown : w2.ownsRow w.heap.size 3 1 sv' ((symC ls (l - 1) ++ idxT ls l i).length + 1) (((symC ls (l - 1) ++ idxT ls l i).map fun j => .int .i64 (j : Nat)) ++ [.int .i64 (i : Nat)]))
    (hg : ((wr.setCell ⟨C, i, none⟩ (.int .u64 ((fstC ls l + cntT ls l i : Nat) : Int))).alloc X).grownBy w2 sv.ownBlock) (n : Nat) :
    OfSt w (((w2.setCell ⟨P, 32, none⟩ sv').setCell ⟨P, l, none⟩ (.int .i64 ((cntT ls l i : Nat) + 1 : Int))).drewN n) A c ls C P l l (i + 1) sv' := by
  obtain ⟨hn1, hn2, hn3⟩ := h.ne
  obtain ⟨a, b, d, hb, hC, hP⟩ := h
  have a1 : Bk (wr.setCell ⟨C, i, none⟩ (.int .u64 ((fstC ls l + cntT ls l i : Nat) : Int))) P _ _ := a.far (p := ⟨C, i, none⟩) (fun e => hn1 e.symm) _
  have b1 := b.set_ i (.int .u64 ((fstC ls l + cntT ls l i : Nat) : Int))
  rw [List.setIfInBounds_toArray, ← List.map_set, codP_hit h1 h15 hx] at b1
  have a2 := (a1.alloc X).grown hg (fun e => hn2 e.symm)
  have b2 := (b1.alloc X).grown hg (fun e => hn3 e.symm)
  have a3 := a2.set_ 32 sv'
  rw [bookC_setSym (by simp) (by simp)] at a3
  have a4 := (a3.set_ l (.int .i64 ((cntT ls l i : Nat) + 1 : Int))).drewN n
  rw [bookC_setCnt (by simp) l (by omega), cntP_hit h1 h15 hx] at a4
  have o2 : sv'.ownBlock ≠ some P := fun e => own_ne hown a2 (by decide) e.symm
  refine ⟨a4, (((b2.far (p := ⟨P, 32, none⟩) hn1 _)).far (p := ⟨P, l, none⟩) hn1 _).drewN n, ?_, ?_, hC, hP⟩
  · rw [idxT_step hx, if_pos rfl, ← List.append_assoc, List.map_append, List.length_append]
    have := own_set (p := ⟨P, 32, none⟩) hown o2 sv'
    have h3 : (w2.setCell ⟨P, 32, none⟩ sv').ownsRow w.heap.size 3 1 sv' ((symC ls (l - 1) ++ idxT ls l i).length + 1) (((symC ls (l - 1) ++ idxT ls l i).map fun j => .int .i64 (j : Nat)) ++ [.int .i64 (i : Nat)]) := this
    exact own_set (p := ⟨P, l, none⟩) h3 o2 _
  · have hb1 : Below w.heap.size w ((wr.setCell ⟨C, i, none⟩ (.int .u64 ((fstC ls l + cntT ls l i : Nat) : Int))).alloc X) := (hb.setCell hC _).alloc (by have := hb.size; simp; omega) X
    have hb2 := hb1.grown hg (by have := hb1.size; exact this) (fun k hk => (d.lt k hk).1)
    exact below_drewN ((hb2.setCell (p := ⟨P, 32, none⟩) hP _).setCell hP _) n
end

set_option maxRecDepth 100000 in
set_option maxHeartbeats 4000000 in
theorem of_any (A : Option Addr) (ls : List Int) (c : Nat) (w : World) (h : Rd w w.heap.size A (ls.map (.int .i64))) (hlen : ls.length ≤ 512) :
    Calls Try.prog 58 #[.slice A ls.length c] w fun e w' => ∃ p, e = .returned (.pointer (some ⟨p, 0, none⟩)) ∧ Book w' w'.heap.size p ls A c ∧ Below w.heap.size w w' := by
  obtain ⟨i0, hi, hz0, hz1, hz2⟩ := info_parts info_int
  have hmk := run_make_row' (P := Try.prog) 25 23 (.int .u64 0) 8 Try.underlying25 info_u64 rfl .i64 .i64 ls.length (by omega) (by omega)
  have H := hide h
  clear h
  go_enter Try.func58, Try.ntmps58
  go_wp2
  go_loopw [4, 5] (fun cd l wr => ∃ (L : Nat) (sv : Value), (1 ≤ L ∧ L ≤ 16) ∧ l = .int .i64 L ∧ cd = .int .u64 (nxtC ls (L - 1)) ∧ OfSt w wr A c ls w.heap.size (w.heap.size + 1) L (L - 1) 0 sv) (fun _ l _ => 16 - (intOf l).toNat)
  case atStart =>
    have z1 : tab 16 (cntP ls 1 0) = tab 16 fun _ => 0 := tab_congr fun j hj => by unfold cntP; rw [cntT_zero]; split; rfl; split; omega; split <;> rfl
    have z2 : tab 16 (fstP ls (1 - 1)) = tab 16 fun _ => 0 := tab_congr fun j hj => by unfold fstP; split; rfl; split; omega; rfl
    have z3 : ((tab ls.length (codP ls 1 0)).map (Value.int .u64)).toArray = madeCells #[.int .u64 0] ls.length := by
      rw [show tab ls.length (codP ls 1 0) = tab ls.length fun _ => 0 from tab_congr fun j hj => by unfold codP; split; rfl; split; omega; rfl]
      apply Array.ext
      · simp [size_madeCells]
      · intro i h1 h2; simp [madeCells, tab, Nat.mod_one]
    refine ⟨1, .slice none 0 0, by omega, rfl, rfl, ?_, ?_, World.ownsRow_nil _ _ _ _, by go_grown, Nat.le_refl _, by omega⟩
    · rw [z1, z2, bookC_zero]; exact Bk.new1 _ _ _ _
    · rw [z3]; exact (Bk.new _ _ _).alloc _
  case round =>
    obtain ⟨L, sv, ⟨hL1, hL16⟩, rfl, rfl, hst⟩ := hrel
    by_cases hl : L ≤ 15
    · obtain ⟨N, hN⟩ : ∃ N, N = nxtC ls (L - 1) := ⟨_, rfl⟩
      have hNb : N ≤ 300000000 := by rw [hN]; exact nxtC_small hlen (by omega)
      have hF : fstC ls L = 2 * N := by rw [hN]; rfl
      rw [← hN]
      have hbk := hst.1
      have d0 := hst.cells
      have hw0 := (hbk.cell (16 + L)).trans (bookC_fst (by simp) (tab_get _ (show L < 16 by omega)))
      have fr0 := hbk.free (16 + L)
      have HN := hide hN
      have HF := hide hF
      clear hN hF
      have hl' : decide ((L : Int) ≤ 15) = true := decide_eq_true (by omega)
      have eF : ((fstC ls L : Nat) : Int) = (N : Int) * 2 := by have := HF.out; omega
      have st1 := hst.first hL1 hl
      rw [eF] at st1
      have HE := hide eF
      clear eF hst
      go_wp2
      clear hw0 fr0 d0 hbk
      go_loopw [4, 28] (fun cd i wx => ∃ (k : Nat) (sv1 : Value), k ≤ ls.length ∧ i = .int .i64 k ∧ cd = .int .u64 ((N : Int) * 2 + (cntT ls L k : Nat)) ∧ OfSt w wx A c ls w.heap.size (w.heap.size + 1) L L k sv1) (fun _ i _ => ls.length - (intOf i).toNat)
      case atStart => exact ⟨0, sv, by omega, rfl, by simp [cntT_zero], st1⟩
      case round =>
        clear st1
        obtain ⟨k, sv1, hk, rfl, rfl, hst⟩ := hrel
        obtain ⟨T, hT⟩ : ∃ T, T = cntT ls L k := ⟨_, rfl⟩
        have hTb : T ≤ 512 := by rw [hT]; exact Nat.le_trans (cntT_le _ _ _) hlen
        rw [← hT]
        have HT := hide hT
        clear hT
        by_cases hlt : k < ls.length
        · obtain ⟨b, o, x, rfl, hb, hx, hc0⟩ := H.out.int hlt
          have hc := (hst.2.2.2.1.cell (p := ⟨b, o + k, none⟩) hb).trans hc0
          have HX := hide hx
          clear hx hc0
          by_cases he : x = (L : Int)
          · subst he
            obtain ⟨d0, d1, d2⟩ := hst.cells
            obtain ⟨n1, n2, n3⟩ := hst.ne
            have k0 : wr.cell? ⟨w.heap.size, k, none⟩ = some (.int .u64 (codP ls L k k)) := (hst.2.1.cell k).trans (by simp [tab, hlt])
            have k1 := hst.2.1.free k
            have hsz := hst.2.2.2.1.size
            have hpz := hst.1.lt
            have hsl : (symC ls (L - 1) ++ idxT ls L k).length ≤ 10000 := by
              have h1 := symC_length_le ls (L - 1)
              have h2 := idxT_length ls L k hk
              have h3 := cntT_le ls L k
              have h4 := Nat.mul_le_mul (show L - 1 ≤ 15 by omega) hlen
              rw [List.length_append]; omega
            have hoX : ∀ (u : Value) (X : Obj), Hid (((wr.setCell ⟨w.heap.size, k, none⟩ u).alloc X).ownsRow w.heap.size 3 1 sv1 (symC ls (L - 1) ++ idxT ls L k).length ((symC ls (L - 1) ++ idxT ls L k).map fun j => .int .i64 (j : Nat))) :=
              fun u X => (own_set (p := ⟨w.heap.size, k, none⟩) hst.2.2.1 n3 u).alloc X
            have hcX : ∀ (u v : Value), Hid (∀ j x, [v][j]? = some x → ((wr.setCell ⟨w.heap.size, k, none⟩ u).alloc (.cells #[v] 3)).cell? ((⟨wr.heap.size, 0, none⟩ : Addr).add j) = some x) := fun u v => by
              have := cell_one_new (wr.setCell ⟨w.heap.size, k, none⟩ u) v 3
              rwa [show (wr.setCell ⟨w.heap.size, k, none⟩ u).heap.size = wr.heap.size by simp] at this
            have hbX : ∀ (u : Value) (X : Obj), Hid (Bk ((wr.setCell ⟨w.heap.size, k, none⟩ u).alloc X) (w.heap.size + 1) 60 (bookC (tab 16 (cntP ls L k)) (tab 16 (fstP ls L)) sv1 (.slice (some ⟨w.heap.size, 0, none⟩) ls.length ls.length) (.slice (some ⟨b, o, none⟩) ls.length c))) :=
              fun u X => ((hst.1.far (p := ⟨w.heap.size, k, none⟩) (fun e => n1 e.symm) u).alloc X)
            have hcnt : cntP ls L k L = T := by
              have := HT.out
              unfold cntP
              rw [if_neg (by omega), if_neg (by omega), if_pos rfl, ← this]
            have HC := hide hcnt
            have HS := hide hst
            have HN2 := hide n2
            clear hst hcnt n1 n2 n3
            have hlx : ((L : Int) == (L : Int)) = true := by simp
            go_wp2_with (at_builtin; refine wpList_append_own _ rfl (.tmp 47) (.tmp 49) 22 rfl w.heap.size 3 i0 (.int .i64 0) 1 8 Try.underlying22 hi hz0 hz1 hz2 rfl (by decide) sv1 _ _ rfl (hoX _ _).out ⟨wr.heap.size, 0, none⟩ 1 1 [.int .i64 k] rfl rfl (hcX _ _).out (by intro u hu; simp at hu; subst hu; rfl) (by unfold maxLen; omega) (by omega) (by simp; omega) ?_; intro v' w2 hown2 hgr2 _; obtain ⟨g1, cp1, rfl, hg1, hg2⟩ := hown2.form (by omega); have hb2 := (hbX _ _).out.grown hgr2 (fun e => HN2.out e.symm); obtain ⟨q0, q1, q2⟩ := bookC_tail (cnt := tab 16 (cntP ls L k)) (fst := tab 16 (fstP ls L)) (v := sv1) (cv := .slice (some ⟨w.heap.size, 0, none⟩) ls.length ls.length) (lv := .slice (some ⟨b, o, none⟩) ls.length c) (by simp) (by simp); have r0 := (hb2.cell 32).trans q0; have r1 := hb2.free 32; have r2 := (hb2.cell L).trans (bookC_cnt (by simp) (tab_get _ (show L < 16 by omega))); rw [HC.out] at r2; have r3 := hb2.free L)
            go_region
            go_wp2
            go_roundw
            case rel =>
              have e1 : ((fstC ls L + cntT ls L k : Nat) : Int) = (N : Int) * 2 + (T : Int) := by have := HE.out; have := HT.out; omega
              have hh := HS.out.hit hL1 hl HX.out (X := .cells #[.int .i64 k] 3) (by simpa [List.length_append] using hown2) (by rw [e1]; exact hgr2) 1
              rw [← HT.out] at hh
              exact ⟨k + 1, _, by omega, by go_num, by rw [cntT_step HX.out, if_pos rfl, ← HT.out]; go_num, hh⟩
            case measure => simp [intOf]; omega
          · have hxb : (x == (L : Int)) = false := by simpa using he
            have HS := hide hst
            clear hst
            go_wp2
            go_roundw
            case rel => exact ⟨k + 1, sv1, by omega, by go_num, by rw [cntT_step HX.out, if_neg he, HT.out]; rfl, HS.out.miss hL1 HX.out he⟩
            case measure => simp [intOf]; omega
        · have HS := hide hst
          clear hst
          go_wp2
          go_roundw
          case rel =>
            have hkl : k = ls.length := by omega
            subst hkl
            exact ⟨L + 1, sv1, ⟨by omega, by omega⟩, by go_num, by rw [show L + 1 - 1 = (L - 1) + 1 by omega, nxtC, ← HN.out, show L - 1 + 1 = L by omega, HT.out]; simp [cntC]; omega, HS.out.next hL1⟩
          case measure => simp [intOf]; omega
    · have hl' : decide ((L : Int) ≤ 15) = false := decide_eq_false (by omega)
      obtain rfl : L = 16 := by omega
      go_wp2
      go_ret
      refine ⟨w.heap.size + 1, rfl, ?_, hst.2.2.2.1⟩
      obtain ⟨a, b, d, hbe, _⟩ := hst
      rw [idxT_zero, List.append_nil] at d
      have hrd := own_form' d
      obtain ⟨As, cs, rfl, hAs⟩ := hrd
      refine ⟨As, cs, some ⟨w.heap.size, 0, none⟩, ls.length, a, a.lt, by simpa using hAs, ?_, (H.out.below hbe).more hbe.size⟩
      intro i u hu
      refine ⟨w.heap.size, 0, rfl, b.lt, ?_⟩
      rw [Nat.zero_add, b.cell i, List.getElem?_toArray, show tab ls.length (codP ls 16 0) = tab ls.length fun j => (codeN ls j : Nat) from tab_congr fun j hj => codP_all ls j]
      exact hu
end Go.Proofs.Ytggffiikfelbjaa
