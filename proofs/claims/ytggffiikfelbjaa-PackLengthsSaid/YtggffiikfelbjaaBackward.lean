/- Walk: slices.Backward at rows of items: it hands over the places from the last one down. -/
import Derived.Test.YtggffiikfelbjaaRangePos
namespace Go.Proofs.Ytggffiikfelbjaa
open Go.RowKit Go.Shelf

attribute [local go_sem] Oper.semAt_some

set_option maxRecDepth 100000 in
set_option maxHeartbeats 2000000 in
theorem backward_in (F : Fence) (n : Nat) (hf : F.fn 68) (hro : F.round = none) (a : Option Addr) (len cap : Nat) (w : World) :
    CallsIn F n Try.prog 68 #[.slice a len cap] w fun e w' => e = .returned (.func (.func 72) #[] #[.pointer (some ⟨w.heap.size, 0, none⟩)]) ∧ w' = w.alloc (.cells #[.slice a len cap] 83) := by
  refine callsIn_of_wp Try.func68 rfl hf ?_ hro
  simp only [Try.ntmps68, List.size_toArray, List.length_cons, List.length_nil, Nat.reduceAdd, Nat.reduceSub, Array.replicate_succ, Array.replicate_zero, List.push_toArray, List.append_toArray, List.nil_append, List.cons_append]
  gi_wp2
  go_ret
  exact ⟨rfl, rfl⟩

set_option maxRecDepth 100000 in
set_option maxHeartbeats 4000000 in
/-- Its iterator. The box at B holds the slice; the slice's cells lie in block b; neither is turned by a round. -/
theorem backward_seq (F : Fence) (n : Nat) (hf : F.fn 72) (hro : F.round = none) (hn : 1 ≤ n) (S : Nat → Prop) (B b off cap : Nat) (vs : List Value) (w : World) (hlen : vs.length ≤ 1000000)
    (hB : ¬ S B) (hb : ¬ S b) (hBl : B < w.heap.size) (hbl : b < w.heap.size) (hc : w.cell? ⟨B, 0, none⟩ = some (.slice (some ⟨b, off, none⟩) vs.length cap)) (hv : ∀ j v, vs[j]? = some v → w.cell? ⟨b, off + j, none⟩ = some v) :
    SeqPos F n Try.prog 72 #[.pointer (some ⟨B, 0, none⟩)] (fun k => #[.int .i64 ((vs.length - 1 - k : Nat) : Int), vs.getD (vs.length - 1 - k) .nilIface]) S vs.length w := by
  intro l J W hW hY h0
  have HW := hide hW
  have HY := hide hY
  have hc1 : W.cell? ⟨B, 0, none⟩ = some (.slice (some ⟨b, off, none⟩) vs.length cap) := (hW.cell (p := ⟨B, 0, none⟩) hBl).trans hc
  have HV := hide hv
  clear hY hv hc hW
  refine callsIn_of_wp Try.func72 rfl hf ?_ hro
  simp only [Try.ntmps72, List.size_toArray, List.length_cons, List.length_nil, Nat.reduceAdd, Nat.reduceSub, Array.replicate_succ, Array.replicate_zero, List.push_toArray, List.append_toArray, List.nil_append, List.cons_append]
  gi_wp2
  gi_loopw [3] (fun vi wr => ∃ (k : Nat), k ≤ vs.length ∧ vi = .int .i64 ((vs.length : Int) - 1 - (k : Int)) ∧ Hid (J k wr) ∧ Hid (Fr S W wr)) (fun vi _ => (intOf vi + 1).toNat)
  case atStart => exact ⟨0, by omega, by simp, h0, Fr.refl _ _⟩
  case round =>
    obtain ⟨k, hk, rfl, hJ, hF⟩ := hrel
    by_cases hlt : k < vs.length
    · obtain ⟨i, hi⟩ : ∃ i, i = vs.length - 1 - k := ⟨_, rfl⟩
      have hiI : (vs.length : Int) - 1 - (k : Int) = (i : Int) := by omega
      have hil : i < vs.length := by omega
      obtain ⟨v, hvi⟩ : ∃ v, vs[i]? = some v := ⟨vs[i], by simp [hil]⟩
      have c1 : wr.cell? ⟨B, 0, none⟩ = some (.slice (some ⟨b, off, none⟩) vs.length cap) := hF.out.cell hB hc1
      have c2 : wr.cell? ⟨b, off + i, none⟩ = some v := hF.out.cell hb ((HW.out.cell (p := ⟨b, off + i, none⟩) hbl).trans (HV.out i v hvi))
      have hy := HY.out k wr hlt hJ.out
      rw [← hi, show vs.getD i .nilIface = v by rw [List.getD_eq_getElem?_getD, hvi]; rfl] at hy
      obtain ⟨fn, tmps, assign, body, hy, hR⟩ := hy
      have HI := hide hi
      clear hi hvi
      have d0 : decide ((0 : Int) ≤ (i : Int)) = true := decide_eq_true (by omega)
      gi_wp2
      refine hR.mono ?_
      rintro e W3 ⟨rfl, hJ3, hF3⟩
      have HJ3 := hide hJ3
      have HF3 := hide hF3
      clear hJ3 hF3 hR
      gi_wp2
      go_roundw
      case rel => exact ⟨k + 1, by omega, v_int (by omega), HJ3, hide (hF.out.trans HF3.out (fun _ h => .inl h))⟩
      case measure => simp [intOf]; omega
    · obtain rfl : k = vs.length := by omega
      have d0 : decide ((0 : Int) ≤ (vs.length : Int) - 1 - (vs.length : Int)) = false := decide_eq_false (by omega)
      have d1 : (vs.length : Int) - 1 - (vs.length : Int) = -1 := by omega
      gi_wp2
      go_end0
      exact ⟨⟨_, rfl⟩, hJ.out⟩
#print axioms backward_seq
end Go.Proofs.Ytggffiikfelbjaa
