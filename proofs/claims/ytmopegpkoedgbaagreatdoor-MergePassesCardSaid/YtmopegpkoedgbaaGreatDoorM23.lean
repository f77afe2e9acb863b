/- Lemmas for the row: Bld. -/
import Derived.Test.YtmopegpkoedgbaaGreatDoorM01
import Derived.Test.YtmopegpkoedgbaaGreatDoorM10
import Derived.Laws.LoneSync
import Derived.Lib.Builder
import Derived.Lib.UnsafeStr
set_option linter.unusedVariables false
set_option linter.unusedSimpArgs false
/- Walks (over few texts): strings.Builder's copyCheck, WriteByte, Write, WriteString. -/
namespace Go.Proofs.YtmopegpkoedgbaaGreatDoor
open Go.RowKit

theorem info_byte : (Tryz.prog.info? 5).map (fun i => (i.zero, i.size, i.bytes)) = some (some (.int .u8 0), 1, 1) := by kernel_rfl

theorem own_formB {w : World} {base e size n : Nat} {v : Value} {xs : List Value} (h : w.ownsRow base e size v n xs) : ∃ A c, v = .slice A n c := by
  rcases h.2 with ⟨hv, hn⟩ | ⟨g, cap, cur, hv, _⟩
  · exact ⟨none, 0, by rw [hv, hn]⟩
  · exact ⟨_, cap, hv⟩
/-- A builder that holds bytes. -/
def Bd (w : World) (b : Nat) (l : List Nat) : Prop :=
  ∃ p v, Bk w b 107 #[p, v] ∧ (p = .pointer none ∨ p = .pointer (some ⟨b, 0, none⟩)) ∧ w.ownsRow (b + 1) 5 1 v l.length (vby l)
theorem Bd.lt {w : World} {b : Nat} {l : List Nat} (h : Bd w b l) : b < w.heap.size := by obtain ⟨p, v, h1, _⟩ := h; exact h1.lt
theorem Bd.fr {w w' : World} {b : Nat} {l : List Nat} {S : Nat → Prop} (h : Bd w b l) (hf : Fr S w w') (hS : ∀ g, S g → g < b) : Bd w' b l := by
  obtain ⟨p, v, h1, h2, h3⟩ := h
  exact ⟨p, v, h1.fr hf (fun hs => by have := hS _ hs; omega), h2, own_fr h3 hf (fun g hg hs => by have := (h3.lt g hg).1; have := hS _ hs; omega)⟩
theorem Bd.below {w w' : World} {b : Nat} {l : List Nat} (h : Bd w b l) (hb : Below w.heap.size w w') : Bd w' b l := h.fr (Fr.below hb (fun _ => False)) (fun _ h => h.elim)
theorem Bd.new (w : World) : Bd (w.alloc (.cells #[.pointer none, .slice none 0 0] 107)) w.heap.size [] := ⟨_, _, Bk.new _ _ _, .inl rfl, World.ownsRow_nil _ _ _ _⟩
theorem size_builder : (Tryz.prog.info? 107).map (·.size) = some 2 := by kernel_rfl
theorem lies_builder : liesAt Tryz.prog Tryz.prog.depth 107 (2 / Tryz.prog.cellsOf 107) 0 107 1 = true := by kernel_rfl
set_option maxHeartbeats 1000000 in
set_option maxRecDepth 100000 in
theorem check_builder (b : Nat) (l : List Nat) (w : World) (h : Bd w b l) :
    Calls Tryz.prog 109 #[.pointer (some ⟨b, 0, none⟩)] w fun e w' => e = .returned (.tuple #[]) ∧ Bd w' b l ∧ Fr (fun g => g = b) w w' := by
  obtain ⟨p, v, hb, hp, ho⟩ := h
  obtain ⟨c0, c1⟩ := two_cells hb
  have f0 := hb.free 0
  have HB := hide hb
  have HO := hide ho
  clear hb ho
  obtain ⟨j, hj, hjs⟩ := Option.map_eq_some_iff.1 size_builder
  have hsh : w.shape? b = some (107, 2) := by
    have := HB.out
    unfold Bk at this
    simp [World.shape?, this]
  rcases hp with rfl | rfl
  · go_enter Tryz.func109, Tryz.ntmps109
    go_wp2_with fail
    rw [Lib.run_to_unsafe w ⟨b, 0, none⟩ Tryz.underlying105 Tryz.underlying219 hj (by rw [hjs]; decide) hsh (Nat.zero_lt_succ 1)]
    simp only [Result.andThen]
    rw [Oper.upon_value]
    go_wp2_with fail
    rw [run_callFunc_extern Tryz.func148 (by kernel_rfl) (by kernel_rfl) (by kernel_rfl) (e := Extern.AbiNoEscape.same) (by kernel_rfl)]
    rw [Lib.run_noEscape]
    simp only [Result.andThen]
    rw [Oper.upon_value]
    go_wp2_with fail
    rw [Lib.run_from_unsafe w ⟨b, 0, none⟩ Tryz.underlying219 Tryz.underlying105 hj hsh lies_builder]
    simp only [Result.andThen]
    rw [Oper.upon_value]
    go_wp2_with fail
    go_end0
    refine ⟨rfl, ⟨_, v, ?_, .inr rfl, ?_⟩, (Fr.refl (fun g => g = b) w).setCell (p := ⟨b, 0, none⟩) (.inl rfl) _⟩
    · exact HB.out.set_ 0 _
    · exact own_set HO.out (fun e => by have := (HO.out.lt b e).1; omega) _
  · go_enter Tryz.func109, Tryz.ntmps109
    go_wp2_with fail
    rw [Lib.run_neq_ptr_same w _ Tryz.underlying105 hj]
    simp only [Result.andThen]
    rw [Oper.upon_value]
    go_wp2_with fail
    go_end0
    exact ⟨rfl, ⟨_, v, HB.out, .inr rfl, HO.out⟩, Fr.refl _ _⟩
theorem strCells_vby (s : ByteArray) : Lib.strCells s = vby (strL s) := by
  apply List.ext_getElem?
  intro i
  unfold Lib.strCells vby
  rw [List.getElem?_map, List.getElem?_map]
  rcases Nat.lt_or_ge i s.size with g | g
  · rw [strL_get g, ← byt_of s g, Array.getElem?_toList, Array.getElem?_eq_getElem (by simpa using g)]; rfl
  · rw [List.getElem?_eq_none (by simpa using g), List.getElem?_eq_none (by rw [strL_length]; exact g)]; rfl
set_option maxHeartbeats 1000000 in
set_option maxRecDepth 100000 in
theorem bwString (b : Nat) (l : List Nat) (s : ByteArray) (w : World) (h : Bd w b l) (hl : l.length + s.size ≤ 100000000000000) :
    Calls Tryz.prog 69 #[.pointer (some ⟨b, 0, none⟩), .string s] w fun e w' => (∃ k : Int, e = .returned (.tuple #[.int .i64 k, .nilIface])) ∧ Bd w' b (l ++ strL s) ∧ Below b w w' := by
  have ck := check_builder b l w h
  have HC := hide ck
  clear ck
  obtain ⟨i0, hi, hz0, hz1, hz2⟩ := info_parts info_byte
  go_enter Tryz.func69, Tryz.ntmps69
  go_wp2_with (first
    | (go_at_call 109; refine (Calls.mono HC.out ?_); rintro e w1 ⟨rfl, hb1, hf1⟩; obtain ⟨p, v, hB, hp, ho⟩ := hb1; obtain ⟨c0, c1⟩ := two_cells hB; have HB := hide hB; have HO := hide ho; have HF := hide hf1; have f1 := hB.free 1; have hblt := hB.lt; clear hB ho hf1)
    | (at_builtin; refine Lib.wpList_append_own_string _ rfl (.tmp 12) (.tmp 13) 99 9 rfl (b + 1) 5 i0 Tryz.underlying99 Tryz.underlying9 hi hz0 hz1 hz2 _ _ _ rfl HO.out s rfl (by unfold maxLen; omega) (by omega) (by omega) ?_; intro v3 w3 hown3 hgr3 _
       have hB3 := HB.out.grown hgr3 (fun he => by have := (HO.out.lt b he.symm).1; omega)
       have hf3 : Below b w w3 := (HF.out.toBelowB (fun g hg => by subst hg; exact Nat.le_refl _) (by have := HF.out.size; have := h.lt; omega)).grown hgr3 (by omega) (fun g hg => by have := (HO.out.lt g hg).1; omega)
       obtain ⟨A3, c3, rfl⟩ := own_formB hown3
       obtain ⟨d0, d1⟩ := two_cells hB3
       have g1 := hB3.free 1
       have HB3 := hide hB3
       have HO3 := hide hown3
       clear hB3 hown3 hgr3))
  go_ret2
  refine ⟨⟨_, rfl⟩, ⟨p, _, HB3.out.set_ 1 _, hp, ?_⟩, hf3.setCell (p := ⟨b, 1, none⟩) (Nat.le_refl _) _⟩
  have := own_set HO3.out (p := ⟨b, 1, none⟩) (fun e => by have := (HO3.out.lt b e).1; omega) (.slice A3 (l.length + s.size) c3)
  rw [show vby (l ++ strL s) = vby l ++ vby (strL s) from by unfold vby; rw [List.map_append], List.length_append, strL_length, ← strCells_vby]
  exact this
end Go.Proofs.YtmopegpkoedgbaaGreatDoor
