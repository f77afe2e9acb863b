/- Lemmas for the row: FrF, FrO, FrV. -/
import Derived.Test.YtmbonieeapbpoaaGreatDoorM10
import Derived.Test.YtmbonieeapbpoaaGreatDoorM17
import Derived.Test.YtmbonieeapbpoaaGreatDoorM19
import Derived.Test.YtmbonieeapbpoaaGreatDoorM20
import Derived.Deep.AppendLies
import Derived.Deep.RegionHeld3
import Derived.Lib.QuietBelow
set_option linter.unusedVariables false
set_option linter.unusedSimpArgs false
/- Walks: world.right, world.Right, wringerref29.Right (printed by gen_frf.py). -/
namespace Go.Proofs.YtmbonieeapbpoaaGreatDoor
open Go.RowKit

theorem emp3 (a b c : ByteArray) : (a ++ b ++ c).toList.isEmpty = (decide (a.size = 0) && decide (b.size = 0) && decide (c.size = 0)) := by
  rw [isEmpty_str, ByteArray.size_append, ByteArray.size_append]
  by_cases h1 : a.size = 0 <;> by_cases h2 : b.size = 0 <;> by_cases h3 : c.size = 0 <;> simp [h1, h2, h3]
set_option maxRecDepth 100000 in
set_option maxHeartbeats 8000000 in
theorem wright_any (k : Nat) (nm to_ tx : ByteArray) (n : Int) (l : List Bool) (A : Option Addr) (c : Nat) (w : World) (h1 : nm.size ≤ 100000000) (h2 : to_.size ≤ 100000000) (h3 : tx.size ≤ 100000000) (h4 : l.length ≤ 100000000) :
    Calls Tryz.prog 28 #[.agg #[.int .u8 (k : Nat), .string nm, .string to_, .string tx, .int .i64 n, .slice A l.length c]] w fun e w' => e = .returned (.bool (rightS ⟨k, nm, to_, tx, n, l⟩)) ∧ Below w.heap.size w w' := by
  have HL3 := hide (show ((l.length : Int) == 0) = decide (l = []) by cases l with | nil => rfl | cons a l => (rw [decide_eq_false (by simp)]; rw [beq_eq_false_iff_ne]; simp; omega))
  have hk : k = 0 ∨ k = 1 ∨ k = 2 ∨ k = 3 ∨ k = 4 ∨ k = 5 ∨ k = 6 ∨ k = 7 ∨ k = 8 ∨ k = 9 ∨ k = 10 ∨ 10 < k := by omega
  rcases hk with rfl | rfl | rfl | rfl | rfl | rfl | rfl | rfl | rfl | rfl | rfl | hk
  · have hres : rightS ⟨0, nm, to_, tx, n, l⟩ = false := rfl
    rw [hres]
    go_enter Tryz.func28, Tryz.ntmps28
    go_wp2_with fail
    all_goals go_ret
    all_goals exact ⟨rfl, by first | exact ba1 _ _ | exact btrans (ba1 _ _) (ba1 _ _)⟩
  · have hcat := emp3 ⟨#[]⟩ to_ ⟨#[]⟩
    obtain ⟨e1, he1⟩ : ∃ e1, e1 = (decide ((⟨#[]⟩ : ByteArray).size = 0) && decide ((to_ : ByteArray).size = 0) && decide ((⟨#[]⟩ : ByteArray).size = 0)) := ⟨_, rfl⟩
    rw [← he1] at hcat
    have hres : rightS ⟨1, nm, to_, tx, n, l⟩ = (e1 && decide (n = 0) && decide (l = [])) := by
      rw [he1]
      unfold rightS hasNm hasTo hasN
      clear hcat he1
      dsimp only
      generalize decide (nm.size = 0) = x1
      generalize decide (to_.size = 0) = x2
      generalize decide (tx.size = 0) = x3
      generalize decide (n = 0) = x4
      generalize decide (l = []) = x5
      cases x1 <;> cases x2 <;> cases x3 <;> cases x4 <;> cases x5 <;> rfl
    rw [hres]
    clear he1 hres
    go_enter Tryz.func28, Tryz.ntmps28
    go_wp2_with fail
    all_goals go_ret
    all_goals refine ⟨?_, by first | exact ba1 _ _ | exact btrans (ba1 _ _) (ba1 _ _)⟩
    all_goals (clear hcat; have hl3 := HL3.out; show Ending.returned (.bool _) = Ending.returned (.bool _); first | rfl | (simp_all; done) | (cases e1 <;> simp_all))
  · have hcat := emp3 ⟨#[]⟩ to_ tx
    obtain ⟨e1, he1⟩ : ∃ e1, e1 = (decide ((⟨#[]⟩ : ByteArray).size = 0) && decide ((to_ : ByteArray).size = 0) && decide ((tx : ByteArray).size = 0)) := ⟨_, rfl⟩
    rw [← he1] at hcat
    have hres : rightS ⟨2, nm, to_, tx, n, l⟩ = (e1 && decide (n = 0) && decide (l = [])) := by
      rw [he1]
      unfold rightS hasNm hasTo hasN
      clear hcat he1
      dsimp only
      generalize decide (nm.size = 0) = x1
      generalize decide (to_.size = 0) = x2
      generalize decide (tx.size = 0) = x3
      generalize decide (n = 0) = x4
      generalize decide (l = []) = x5
      cases x1 <;> cases x2 <;> cases x3 <;> cases x4 <;> cases x5 <;> rfl
    rw [hres]
    clear he1 hres
    go_enter Tryz.func28, Tryz.ntmps28
    go_wp2_with fail
    all_goals go_ret
    all_goals refine ⟨?_, by first | exact ba1 _ _ | exact btrans (ba1 _ _) (ba1 _ _)⟩
    all_goals (clear hcat; have hl3 := HL3.out; show Ending.returned (.bool _) = Ending.returned (.bool _); first | rfl | (simp_all; done) | (cases e1 <;> simp_all))
  · have hcat := emp3 ⟨#[]⟩ to_ tx
    obtain ⟨e1, he1⟩ : ∃ e1, e1 = (decide ((⟨#[]⟩ : ByteArray).size = 0) && decide ((to_ : ByteArray).size = 0) && decide ((tx : ByteArray).size = 0)) := ⟨_, rfl⟩
    rw [← he1] at hcat
    have hres : rightS ⟨3, nm, to_, tx, n, l⟩ = (e1 && decide (n = 0) && decide (l = [])) := by
      rw [he1]
      unfold rightS hasNm hasTo hasN
      clear hcat he1
      dsimp only
      generalize decide (nm.size = 0) = x1
      generalize decide (to_.size = 0) = x2
      generalize decide (tx.size = 0) = x3
      generalize decide (n = 0) = x4
      generalize decide (l = []) = x5
      cases x1 <;> cases x2 <;> cases x3 <;> cases x4 <;> cases x5 <;> rfl
    rw [hres]
    clear he1 hres
    go_enter Tryz.func28, Tryz.ntmps28
    go_wp2_with fail
    all_goals go_ret
    all_goals refine ⟨?_, by first | exact ba1 _ _ | exact btrans (ba1 _ _) (ba1 _ _)⟩
    all_goals (clear hcat; have hl3 := HL3.out; show Ending.returned (.bool _) = Ending.returned (.bool _); first | rfl | (simp_all; done) | (cases e1 <;> simp_all))
  · have hcat := emp3 ⟨#[]⟩ ⟨#[]⟩ tx
    obtain ⟨e1, he1⟩ : ∃ e1, e1 = (decide ((⟨#[]⟩ : ByteArray).size = 0) && decide ((⟨#[]⟩ : ByteArray).size = 0) && decide ((tx : ByteArray).size = 0)) := ⟨_, rfl⟩
    rw [← he1] at hcat
    have hres : rightS ⟨4, nm, to_, tx, n, l⟩ = (e1 && decide (n = 0) && decide (l = [])) := by
      rw [he1]
      unfold rightS hasNm hasTo hasN
      clear hcat he1
      dsimp only
      generalize decide (nm.size = 0) = x1
      generalize decide (to_.size = 0) = x2
      generalize decide (tx.size = 0) = x3
      generalize decide (n = 0) = x4
      generalize decide (l = []) = x5
      cases x1 <;> cases x2 <;> cases x3 <;> cases x4 <;> cases x5 <;> rfl
    rw [hres]
    clear he1 hres
    go_enter Tryz.func28, Tryz.ntmps28
    go_wp2_with fail
    all_goals go_ret
    all_goals refine ⟨?_, by first | exact ba1 _ _ | exact btrans (ba1 _ _) (ba1 _ _)⟩
    all_goals (clear hcat; have hl3 := HL3.out; show Ending.returned (.bool _) = Ending.returned (.bool _); first | rfl | (simp_all; done) | (cases e1 <;> simp_all))
  · have hcat := emp3 nm to_ tx
    obtain ⟨e1, he1⟩ : ∃ e1, e1 = (decide ((nm : ByteArray).size = 0) && decide ((to_ : ByteArray).size = 0) && decide ((tx : ByteArray).size = 0)) := ⟨_, rfl⟩
    rw [← he1] at hcat
    have hres : rightS ⟨5, nm, to_, tx, n, l⟩ = (e1 && decide (n = 0) && decide (l = [])) := by
      rw [he1]
      unfold rightS hasNm hasTo hasN
      clear hcat he1
      dsimp only
      generalize decide (nm.size = 0) = x1
      generalize decide (to_.size = 0) = x2
      generalize decide (tx.size = 0) = x3
      generalize decide (n = 0) = x4
      generalize decide (l = []) = x5
      cases x1 <;> cases x2 <;> cases x3 <;> cases x4 <;> cases x5 <;> rfl
    rw [hres]
    clear he1 hres
    go_enter Tryz.func28, Tryz.ntmps28
    go_wp2_with fail
    all_goals go_ret
    all_goals refine ⟨?_, by first | exact ba1 _ _ | exact btrans (ba1 _ _) (ba1 _ _)⟩
    all_goals (clear hcat; have hl3 := HL3.out; show Ending.returned (.bool _) = Ending.returned (.bool _); first | rfl | (simp_all; done) | (cases e1 <;> simp_all))
  · have hcat := emp3 ⟨#[]⟩ ⟨#[]⟩ tx
    obtain ⟨e1, he1⟩ : ∃ e1, e1 = (decide ((⟨#[]⟩ : ByteArray).size = 0) && decide ((⟨#[]⟩ : ByteArray).size = 0) && decide ((tx : ByteArray).size = 0)) := ⟨_, rfl⟩
    rw [← he1] at hcat
    have hres : rightS ⟨6, nm, to_, tx, n, l⟩ = (e1 && decide (n = 0) && decide (l = [])) := by
      rw [he1]
      unfold rightS hasNm hasTo hasN
      clear hcat he1
      dsimp only
      generalize decide (nm.size = 0) = x1
      generalize decide (to_.size = 0) = x2
      generalize decide (tx.size = 0) = x3
      generalize decide (n = 0) = x4
      generalize decide (l = []) = x5
      cases x1 <;> cases x2 <;> cases x3 <;> cases x4 <;> cases x5 <;> rfl
    rw [hres]
    clear he1 hres
    go_enter Tryz.func28, Tryz.ntmps28
    go_wp2_with fail
    all_goals go_ret
    all_goals refine ⟨?_, by first | exact ba1 _ _ | exact btrans (ba1 _ _) (ba1 _ _)⟩
    all_goals (clear hcat; have hl3 := HL3.out; show Ending.returned (.bool _) = Ending.returned (.bool _); first | rfl | (simp_all; done) | (cases e1 <;> simp_all))
  · have hcat := emp3 nm to_ tx
    obtain ⟨e1, he1⟩ : ∃ e1, e1 = (decide ((nm : ByteArray).size = 0) && decide ((to_ : ByteArray).size = 0) && decide ((tx : ByteArray).size = 0)) := ⟨_, rfl⟩
    rw [← he1] at hcat
    have hres : rightS ⟨7, nm, to_, tx, n, l⟩ = (e1 && decide (n = 0) && decide (l = [])) := by
      rw [he1]
      unfold rightS hasNm hasTo hasN
      clear hcat he1
      dsimp only
      generalize decide (nm.size = 0) = x1
      generalize decide (to_.size = 0) = x2
      generalize decide (tx.size = 0) = x3
      generalize decide (n = 0) = x4
      generalize decide (l = []) = x5
      cases x1 <;> cases x2 <;> cases x3 <;> cases x4 <;> cases x5 <;> rfl
    rw [hres]
    clear he1 hres
    go_enter Tryz.func28, Tryz.ntmps28
    go_wp2_with fail
    all_goals go_ret
    all_goals refine ⟨?_, by first | exact ba1 _ _ | exact btrans (ba1 _ _) (ba1 _ _)⟩
    all_goals (clear hcat; have hl3 := HL3.out; show Ending.returned (.bool _) = Ending.returned (.bool _); first | rfl | (simp_all; done) | (cases e1 <;> simp_all))
  · have hcat := emp3 nm to_ tx
    obtain ⟨e1, he1⟩ : ∃ e1, e1 = (decide ((nm : ByteArray).size = 0) && decide ((to_ : ByteArray).size = 0) && decide ((tx : ByteArray).size = 0)) := ⟨_, rfl⟩
    rw [← he1] at hcat
    have hres : rightS ⟨8, nm, to_, tx, n, l⟩ = (e1 && true && decide (l = [])) := by
      rw [he1]
      unfold rightS hasNm hasTo hasN
      clear hcat he1
      dsimp only
      generalize decide (nm.size = 0) = x1
      generalize decide (to_.size = 0) = x2
      generalize decide (tx.size = 0) = x3
      generalize decide (n = 0) = x4
      generalize decide (l = []) = x5
      cases x1 <;> cases x2 <;> cases x3 <;> cases x4 <;> cases x5 <;> rfl
    rw [hres]
    clear he1 hres
    go_enter Tryz.func28, Tryz.ntmps28
    go_wp2_with fail
    all_goals go_ret
    all_goals refine ⟨?_, by first | exact ba1 _ _ | exact btrans (ba1 _ _) (ba1 _ _)⟩
    all_goals (clear hcat; have hl3 := HL3.out; show Ending.returned (.bool _) = Ending.returned (.bool _); first | rfl | (simp_all; done) | (cases e1 <;> simp_all))
  · have hcat := emp3 nm to_ tx
    obtain ⟨e1, he1⟩ : ∃ e1, e1 = (decide ((nm : ByteArray).size = 0) && decide ((to_ : ByteArray).size = 0) && decide ((tx : ByteArray).size = 0)) := ⟨_, rfl⟩
    rw [← he1] at hcat
    have hres : rightS ⟨9, nm, to_, tx, n, l⟩ = (e1 && true && decide (l = [])) := by
      rw [he1]
      unfold rightS hasNm hasTo hasN
      clear hcat he1
      dsimp only
      generalize decide (nm.size = 0) = x1
      generalize decide (to_.size = 0) = x2
      generalize decide (tx.size = 0) = x3
      generalize decide (n = 0) = x4
      generalize decide (l = []) = x5
      cases x1 <;> cases x2 <;> cases x3 <;> cases x4 <;> cases x5 <;> rfl
    rw [hres]
    clear he1 hres
    go_enter Tryz.func28, Tryz.ntmps28
    go_wp2_with fail
    all_goals go_ret
    all_goals refine ⟨?_, by first | exact ba1 _ _ | exact btrans (ba1 _ _) (ba1 _ _)⟩
    all_goals (clear hcat; have hl3 := HL3.out; show Ending.returned (.bool _) = Ending.returned (.bool _); first | rfl | (simp_all; done) | (cases e1 <;> simp_all))
  · have hcat := emp3 nm to_ tx
    obtain ⟨e1, he1⟩ : ∃ e1, e1 = (decide ((nm : ByteArray).size = 0) && decide ((to_ : ByteArray).size = 0) && decide ((tx : ByteArray).size = 0)) := ⟨_, rfl⟩
    rw [← he1] at hcat
    have hres : rightS ⟨10, nm, to_, tx, n, l⟩ = (e1 && decide (n = 0) && true) := by
      rw [he1]
      unfold rightS hasNm hasTo hasN
      clear hcat he1
      dsimp only
      generalize decide (nm.size = 0) = x1
      generalize decide (to_.size = 0) = x2
      generalize decide (tx.size = 0) = x3
      generalize decide (n = 0) = x4
      generalize decide (l = []) = x5
      cases x1 <;> cases x2 <;> cases x3 <;> cases x4 <;> cases x5 <;> rfl
    rw [hres]
    clear he1 hres
    go_enter Tryz.func28, Tryz.ntmps28
    go_wp2_with fail
    all_goals go_ret
    all_goals refine ⟨?_, by first | exact ba1 _ _ | exact btrans (ba1 _ _) (ba1 _ _)⟩
    all_goals (clear hcat; have hl3 := HL3.out; show Ending.returned (.bool _) = Ending.returned (.bool _); first | rfl | (simp_all; done) | (cases e1 <;> simp_all))
  · have hres : rightS ⟨k, nm, to_, tx, n, l⟩ = false := by unfold rightS; rw [decide_eq_false (show ¬ k ≤ 10 by omega)]; simp
    rw [hres]
    have g0 : ((k : Int) == 0) = false := by simp; omega
    have g1 : (11 : Int) ≤ (k : Int) := by omega
    clear hres
    go_enter Tryz.func28, Tryz.ntmps28
    go_wp2_with fail
    all_goals go_ret
    all_goals exact ⟨rfl, by first | exact ba1 _ _ | exact btrans (ba1 _ _) (ba1 _ _)⟩
end Go.Proofs.YtmbonieeapbpoaaGreatDoor
/- Walk: front.line (printed by gen_fro.py). -/
namespace Go.Proofs.YtmbonieeapbpoaaGreatDoor
open Go.RowKit Go.Sort

theorem info_str : (Tryz.prog.info? 9).map (fun i => (i.zero, i.size, i.bytes)) = some (some (.string ⟨#[]⟩), 1, 16) := by kernel_rfl
theorem blB_size (l : List UInt8) : (blB l).size = l.length := by rw [← bl_size]; rfl
end Go.Proofs.YtmbonieeapbpoaaGreatDoor
/- Walk: front.Write. -/
namespace Go.Proofs.YtmbonieeapbpoaaGreatDoor
open Go.RowKit

theorem strL_blB (l : List UInt8) : strL (blB l) = nats l := by
  apply List.ext_getElem?
  intro i
  unfold nats
  rw [List.getElem?_map]
  rcases Nat.lt_or_ge i (blB l).size with g | g
  · have hl : i < l.length := by rw [← blB_size]; exact g
    rw [strL_get g, List.getElem?_eq_getElem hl, ← byt_of _ g]; rfl
  · have hl : l.length ≤ i := by rw [← blB_size]; exact g
    rw [List.getElem?_eq_none (by rw [strL_length]; exact g), List.getElem?_eq_none hl]; rfl
end Go.Proofs.YtmbonieeapbpoaaGreatDoor
