/- Walk: (*table.reader).next. -/
import Derived.Test.YtggffiikfelbjaaDoorTabE
namespace Go.Proofs.YtggffiikfelbjaaDoor
open Go.RowKit

theorem drop_bit (s : ByteArray) {N a : Nat} (h : a < N) : (bitsL s N).drop a = bitAt s a :: (bitsL s N).drop (a + 1) := by
  rw [List.drop_eq_getElem_cons (by simpa using h)]
  congr 1
  have := bitsL_get s h
  rw [List.getElem?_eq_getElem (by simpa using h)] at this
  simpa using this
theorem getN_one (s : ByteArray) (a : Nat) : getN s a 1 = (bitAt s a).toNat := by
  have h1 := natBits_getN s a 1
  have h2 := getN_lt s a 1
  have h3 := natBits_get (getN s a 1) 1 0 (by omega)
  rw [h1] at h3
  simp at h3
  have h4 : getN s a 1 < 2 := h2
  rw [h3]
  rcases (show getN s a 1 = 0 ∨ getN s a 1 = 1 by omega) with e | e <;> rw [e] <;> rfl
theorem next_one {s : ByteArray} {N a now : Nat} {way : Int} (h : a < N) (hb : bitAt s a = false) : nextT ((bitsL s N).drop a) now way = (0, now, (bitsL s N).drop (a + 1)) := by
  rw [drop_bit s h, hb, nextT]
theorem next_end {s : ByteArray} {N a now : Nat} {way : Int} (h : N ≤ a) : nextT ((bitsL s N).drop a) now way = (5, 0, []) := by
  rw [List.drop_eq_nil_of_le (by simpa using h), nextT]
theorem next_half {s : ByteArray} {N a now : Nat} {way : Int} (h : a < N) (hb : bitAt s a = true) (h2 : N ≤ a + 1) : nextT ((bitsL s N).drop a) now way = (5, 0, []) := by
  rw [drop_bit s h, hb, List.drop_eq_nil_of_le (by simpa using h2), nextT]
theorem next_down {s : ByteArray} {N a now : Nat} {way : Int} (h : a + 1 < N) (hb : bitAt s a = true) (hb2 : bitAt s (a + 1) = true) : nextT ((bitsL s N).drop a) now way = if now = 0 ∨ way = 1 then (7, 0, []) else nextT ((bitsL s N).drop (a + 2)) (now - 1) (-1) := by
  rw [drop_bit s (show a < N by omega), hb, drop_bit s h, hb2, nextT]
theorem next_up {s : ByteArray} {N a now : Nat} {way : Int} (h : a + 1 < N) (hb : bitAt s a = true) (hb2 : bitAt s (a + 1) = false) : nextT ((bitsL s N).drop a) now way = if now = 15 ∨ way = -1 then (7, 0, []) else nextT ((bitsL s N).drop (a + 2)) (now + 1) 1 := by
  rw [drop_bit s (show a < N by omega), hb, drop_bit s h, hb2, nextT]
#print axioms next_up
end Go.Proofs.YtggffiikfelbjaaDoor
