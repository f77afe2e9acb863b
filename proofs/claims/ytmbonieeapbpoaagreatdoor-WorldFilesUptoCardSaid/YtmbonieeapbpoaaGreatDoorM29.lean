/- Lemmas for the row: LawOpen. -/
import Derived.Test.YtmbonieeapbpoaaGreatDoorM17
import Derived.Test.YtmbonieeapbpoaaGreatDoorLawBase
import Derived.Deep.DeepHandedRow
import Derived.Deep.DeepWitnessRowRef
import Derived.Deep.Slices
set_option linter.unusedVariables false
set_option linter.unusedSimpArgs false
/- What the bound of an 'upto' statement gives; structs and lists of bools as they came in. -/
namespace Go.Proofs.YtmbonieeapbpoaaGreatDoor
open Go.ChangeShapes Go.WideShapes Go.ChangeAt Go.RowKit Go.Joins Go.Deep

section
variable {H : Type}
theorem bulk_one (d : DataW H) : 1 ≤ Rows.uptoBulk d := by
  cases d with
  | lit l => cases l <;> simp [Rows.uptoBulk]
  | nil => simp [Rows.uptoBulk]
  | ptr d => simp [Rows.uptoBulk]
  | slice elems spare => simp [Rows.uptoBulk]
  | agg parts => simp [Rows.uptoBulk]
  | iface t d => simp [Rows.uptoBulk]
  | map entries => simp [Rows.uptoBulk]
  | held h => simp [Rows.uptoBulk]
theorem bulk_part {d : DataW H} {l : List (DataW H)} (h : d ∈ l) : Rows.uptoBulk d ≤ Rows.uptoBulkAll l := by
  induction l with
  | nil => cases h
  | cons x r ih =>
    rw [Rows.uptoBulkAll]
    rcases List.mem_cons.1 h with rfl | h
    · omega
    · have := ih h; omega
theorem bulk_len (l : List (DataW H)) : l.length ≤ Rows.uptoBulkAll l := by
  induction l with
  | nil => exact Nat.zero_le _
  | cons x r ih =>
    rw [Rows.uptoBulkAll, List.length_cons]
    have := bulk_one x
    omega
theorem bulk_in {d : DataW H} {l : List (DataW H)} (hk : Rows.uptoSmall H l = true) (h : d ∈ l) : Rows.uptoBulk d ≤ 1048576 := by
  have h1 : Rows.uptoBulkAll l ≤ 1048576 := of_decide_eq_true hk
  have h2 := bulk_part h
  omega
theorem bulk_str {s : ByteArray} {l : List (DataW H)} (hk : Rows.uptoSmall H l = true) (h : DataW.lit (.string s.data.toList) ∈ l) : s.size ≤ 1048576 := by
  have h2 := bulk_in hk h
  rw [Rows.uptoBulk] at h2
  have h3 : s.data.toList.length = s.size := by rw [Array.length_toList]; rfl
  omega
theorem six_list {α : Type} {l : List α} (h : l.length = 6) : ∃ c0 c1 c2 c3 c4 c5, l = [c0, c1, c2, c3, c4, c5] := by
  match l, h with
  | [c0, c1, c2, c3, c4, c5], _ => exact ⟨c0, c1, c2, c3, c4, c5, rfl⟩
variable {enc : TypeId × Value → H} {W : World} {base : Nat} {sp : Nat → Bool} {held : Bool}
/-- A list of Bools, by its cell. -/
theorem open_keep {n : Nat} {cs : List Value} {x : DataW H × List MemPlace} (h : DataW.trod enc Tryz.prog W base sp held n 39 cs = some x) : ∃ (kv : Value) (l : List Bool), cs = [kv] ∧ KpR W W.heap.size kv l ∧ l.length + 1 ≤ Rows.uptoBulk x.1 := by
  rcases open_slice1 Tryz.underlying39 (by kernel_rfl) h with ⟨rfl, rfl⟩ | ⟨a, len, cap, m, k, V, D, Pl, rfl, hb, hl, hm, hmm, rfl, hx⟩
  · exact ⟨_, [], rfl, ⟨none, 0, rfl, fun i u hu => by simp at hu⟩, by show 0 + 1 ≤ Rows.uptoBulk DataW.nil; rw [Rows.uptoBulk]; exact Nat.le_refl 1⟩
  · have hlm : len ≤ m := by rw [hmm]; split <;> omega
    obtain ⟨f, hf⟩ := choose_lt (α := Bool) (n := len) (p := fun i b => V i = .bool b) (fun i hi => by
      obtain ⟨_, h2⟩ := hx i (by omega)
      obtain ⟨b, e, _⟩ := DataW.trod_bool Tryz.underlying4 h2
      exact ⟨b, by simpa using e⟩)
    refine ⟨_, (List.range len).map f, rfl, ⟨some a, cap, by simp, fun i u hu => ?_⟩, ?_⟩
    · have hi : i < len := by have := (List.getElem?_eq_some_iff.1 hu).1; simpa using this
      have hc := (hx i (by omega)).1
      have h0 := (hx 0 (by omega)).1
      obtain ⟨b, o, spot⟩ := a
      have hspot : spot = none := by simpa [Addr.add] using World.cell?_spot h0
      subst hspot
      rw [Go.WideShapes.add_plain] at hc
      refine ⟨b, o, rfl, World.block_lt_of_cell? W _ hc, ?_⟩
      rw [hc, hf i hi]
      simp [hi] at hu
      rw [← hu]
    · show ((List.range len).map f).length + 1 ≤ Rows.uptoBulk (DataW.slice ((List.range len).map D) _)
      rw [Rows.uptoBulk]
      have := bulk_len ((List.range len).map D)
      rw [List.length_map, List.length_range] at *
      omega
end
end Go.Proofs.YtmbonieeapbpoaaGreatDoor
