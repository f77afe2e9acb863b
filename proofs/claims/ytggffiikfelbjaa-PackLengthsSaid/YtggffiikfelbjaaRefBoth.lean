/- Walk: the document's both of layer 20. -/
import Derived.Test.YtggffiikfelbjaaRefPut
import Derived.BigRegion
namespace Go.Proofs.Ytggffiikfelbjaa
open Go.RowKit

def sums2 (va vb : List Nat) : List Nat := List.zipWith (fun x y => x + y) va vb
/-- The first k sums, and nothing yet. -/
def sumsK (va vb : List Nat) (k n : Nat) : List Nat := (sums2 va vb).take k ++ List.replicate (n - k) 0
theorem sumsK_zero (va vb : List Nat) (n : Nat) : sumsK va vb 0 n = List.replicate n 0 := by simp [sumsK]
theorem sumsK_all {va vb : List Nat} {n : Nat} (h : (sums2 va vb).length = n) : sumsK va vb n n = sums2 va vb := by simp [sumsK, ← h]
theorem sumsK_length {va vb : List Nat} {k n : Nat} (h : (sums2 va vb).length = n) (hk : k ≤ n) : (sumsK va vb k n).length = n := by simp [sumsK, h]; omega
theorem sumsK_step {va vb : List Nat} {k n x y : Nat} (h : (sums2 va vb).length = n) (hk : k < n) (hx : va[k]? = some x) (hy : vb[k]? = some y) : (sumsK va vb k n).set k (x + y) = sumsK va vb (k + 1) n := by
  have hs : (sums2 va vb)[k]? = some (x + y) := by unfold sums2; rw [List.getElem?_zipWith, hx, hy]
  have hl : ((sums2 va vb).take k).length = k := by rw [List.length_take]; omega
  unfold sumsK
  rw [List.set_append, if_neg (by omega), hl, Nat.sub_self, show n - k = (n - (k + 1)) + 1 by omega, List.replicate_succ, List.set_cons_zero, List.take_add_one, hs]
  simp

theorem five_new (w : World) (t0 t1 t2 t3 t4 : TypeId) (c0 c1 c2 c3 c4 : Array Value) :
    Bk (((((w.alloc (.cells c0 t0)).alloc (.cells c1 t1)).alloc (.cells c2 t2)).alloc (.cells c3 t3)).alloc (.cells c4 t4)).drew w.heap.size t0 c0 ∧
    Bk (((((w.alloc (.cells c0 t0)).alloc (.cells c1 t1)).alloc (.cells c2 t2)).alloc (.cells c3 t3)).alloc (.cells c4 t4)).drew (w.heap.size + 1) t1 c1 ∧
    Bk (((((w.alloc (.cells c0 t0)).alloc (.cells c1 t1)).alloc (.cells c2 t2)).alloc (.cells c3 t3)).alloc (.cells c4 t4)).drew (w.heap.size + 1 + 1) t2 c2 ∧
    Bk (((((w.alloc (.cells c0 t0)).alloc (.cells c1 t1)).alloc (.cells c2 t2)).alloc (.cells c3 t3)).alloc (.cells c4 t4)).drew (w.heap.size + 1 + 1 + 1) t3 c3 ∧
    Bk (((((w.alloc (.cells c0 t0)).alloc (.cells c1 t1)).alloc (.cells c2 t2)).alloc (.cells c3 t3)).alloc (.cells c4 t4)).drew (w.heap.size + 1 + 1 + 1 + 1) t4 c4 ∧
    Below w.heap.size w (((((w.alloc (.cells c0 t0)).alloc (.cells c1 t1)).alloc (.cells c2 t2)).alloc (.cells c3 t3)).alloc (.cells c4 t4)).drew := by
  have h0 := Bk.new w t0 c0
  have h1 := Bk.newAt (w := w.alloc (.cells c0 t0)) (g := w.heap.size + 1) (t := t1) (cs := c1) (by simp)
  have h2 := Bk.newAt (w := (w.alloc (.cells c0 t0)).alloc (.cells c1 t1)) (g := w.heap.size + 1 + 1) (t := t2) (cs := c2) (by simp)
  have h3 := Bk.newAt (w := ((w.alloc (.cells c0 t0)).alloc (.cells c1 t1)).alloc (.cells c2 t2)) (g := w.heap.size + 1 + 1 + 1) (t := t3) (cs := c3) (by simp)
  have h4 := Bk.newAt (w := (((w.alloc (.cells c0 t0)).alloc (.cells c1 t1)).alloc (.cells c2 t2)).alloc (.cells c3 t3)) (g := w.heap.size + 1 + 1 + 1 + 1) (t := t4) (cs := c4) (by simp)
  refine ⟨((((h0.alloc _).alloc _).alloc _).alloc _).drew, (((h1.alloc _).alloc _).alloc _).drew, ((h2.alloc _).alloc _).drew, (h3.alloc _).drew, h4.drew, ?_⟩
  exact ((((((Below.refl _ w).alloc (Nat.le_refl _) _).alloc (by simp) _).alloc (by simp; omega) _).alloc (by simp; omega) _).alloc (by simp; omega) _).drew

set_option maxRecDepth 100000 in
set_option maxHeartbeats 4000000 in
theorem both_any (wa wb n : Nat) (va vb : List Nat) (Aa Ab : Option Addr) (ca cb : Nat) (w : World) (hla : va.length = n) (hlb : vb.length = n) (ra : Rd w w.heap.size Aa (va.map fun (x : Nat) => Value.int .i64 x)) (rb : Rd w w.heap.size Ab (vb.map fun (x : Nat) => Value.int .i64 x)) (hn : n ≤ 1000) (hw : wa + wb ≤ 18446744073709551615)
    (hva : ∀ x ∈ va, x ≤ 1048576) (hvb : ∀ x ∈ vb, x ≤ 1048576) :
    Calls Try.prog 57 #[.agg #[.int .u64 wa, .slice Aa n ca], .agg #[.int .u64 wb, .slice Ab n cb]] w fun e w' => ∃ g, e = .returned (.agg #[.int .u64 (wa + wb : Nat), .slice (some ⟨g, 0, none⟩) n n]) ∧ Bk w' g 3 ((sums2 va vb).map fun (x : Nat) => Value.int .i64 x).toArray ∧ w.heap.size ≤ g ∧ Below w.heap.size w w' := by
  have hmk := run_make_row' (P := Try.prog) 22 3 (.int .i64 0) 8 Try.underlying22 info_int rfl .i64 .i64 n (by omega) (by omega)
  have hs : (sums2 va vb).length = n := by unfold sums2; rw [List.length_zipWith]; omega
  have HS := hide hs
  have HA := hide ra
  have HB := hide rb
  have HL := hide (And.intro hla hlb)
  have HV := hide (And.intro hva hvb)
  obtain ⟨W, hW⟩ : ∃ W, W = wa + wb := ⟨_, rfl⟩
  have hWI : (wa : Int) + (wb : Int) = (W : Int) := by omega
  have hWb : W ≤ 18446744073709551615 := by omega
  rw [← hW]
  clear ra rb hla hlb hva hvb hs hW hw
  go_enter Try.func57, Try.ntmps57
  go_upto_region 1 with (fail)
  go_cut [5] from 7 to 16 (fun t5 wx => ∃ gX gV, t5 = .pointer (some ⟨gX, 0, none⟩) ∧ Bk wx gX 87 #[.int .u64 W, .slice (some ⟨gV, 0, none⟩) n n] ∧ Bk wx gV 3 (madeCells #[.int .i64 0] n) ∧ w.heap.size + 2 < gX ∧ w.heap.size + 2 < gV ∧ gX ≠ gV ∧
    Bk wx w.heap.size 87 #[.int .u64 wa, .slice Aa n ca] ∧ Bk wx (w.heap.size + 1) 87 #[.int .u64 wb, .slice Ab n cb] ∧ Bk wx (w.heap.size + 1 + 1) 87 #[.int .u64 0, .slice none 0 0] ∧ Below w.heap.size w wx)
  case first =>
    go_region
    all_goals go_wp2_with fail
    all_goals go_meet
    case rel =>
      obtain ⟨e0, e1, e2, e3, e4, eb⟩ := five_new w 87 87 87 3 87 #[.int .u64 wa, .slice Aa n ca] #[.int .u64 wb, .slice Ab n cb] #[.int .u64 0, .slice none 0 0] (madeCells #[.int .i64 0] n) #[.int .u64 W, .slice (some ⟨w.heap.size + 1 + 1 + 1, 0, none⟩) n n]
      exact ⟨w.heap.size + 1 + 1 + 1 + 1, w.heap.size + 1 + 1 + 1, rfl, e4, e3, by omega, by omega, by omega, e0, e1, e2, eb⟩
    case rel =>
      obtain ⟨e0, e1, e2, e3, e4, eb⟩ := five_new w 87 87 87 87 3 #[.int .u64 wa, .slice Aa n ca] #[.int .u64 wb, .slice Ab n cb] #[.int .u64 0, .slice none 0 0] #[.int .u64 W, .slice (some ⟨w.heap.size + 1 + 1 + 1 + 1, 0, none⟩) n n] (madeCells #[.int .i64 0] n)
      exact ⟨w.heap.size + 1 + 1 + 1, w.heap.size + 1 + 1 + 1 + 1, rfl, e3, e4, by omega, by omega, by omega, e0, e1, e2, eb⟩
  case rest =>
    obtain ⟨gX, gV, rfl, kX, kV, hgX, hgV, hne, ka, kb, kr, hbe⟩ := hcut
    obtain ⟨x0, x1⟩ := two_cells kX
    go_wp2_with fail
    go_loopw [20] (fun vi wr => ∃ k : Nat, k ≤ n ∧ vi = .int .i64 k ∧ Hid (Bk wr gX 87 #[.int .u64 W, .slice (some ⟨gV, 0, none⟩) n n]) ∧ Hid (Bk wr gV 3 ((sumsK va vb k n).map fun (x : Nat) => Value.int .i64 x).toArray) ∧
      Hid (Bk wr w.heap.size 87 #[.int .u64 wa, .slice Aa n ca]) ∧ Hid (Bk wr (w.heap.size + 1) 87 #[.int .u64 wb, .slice Ab n cb]) ∧ Hid (Bk wr (w.heap.size + 1 + 1) 87 #[.int .u64 0, .slice none 0 0]) ∧ Below w.heap.size w wr) (fun i _ => n - (intOf i).toNat)
    case atStart => exact ⟨0, by omega, rfl, hide kX, hide (by rw [sumsK_zero, zeros_made]; exact kV), hide ka, hide kb, hide kr, hbe⟩
    case round =>
      obtain ⟨k, hk, rfl, KX, KV, KA, KB, KR, hbw⟩ := hrel
      clear hbe kX kV ka kb kr x0 x1
      obtain ⟨x0, x1⟩ := two_cells KX.out
      by_cases hlt : k < n
      · obtain ⟨a0, a1⟩ := two_cells KA.out
        obtain ⟨b0, b1⟩ := two_cells KB.out
        obtain ⟨x, hx⟩ : ∃ x, va[k]? = some x := ⟨va[k]'(by rw [HL.out.1]; exact hlt), by simp [HL.out.1, hlt]⟩
        obtain ⟨y, hy⟩ : ∃ y, vb[k]? = some y := ⟨vb[k]'(by rw [HL.out.2]; exact hlt), by simp [HL.out.2, hlt]⟩
        obtain ⟨ba, oa, rfl, hba, ca0⟩ := HA.out k (.int .i64 x) (by rw [List.getElem?_map, hx]; rfl)
        obtain ⟨bb, ob, rfl, hbb, cb0⟩ := HB.out k (.int .i64 y) (by rw [List.getElem?_map, hy]; rfl)
        have da := (hbw.cell (p := ⟨ba, oa + k, none⟩) hba).trans ca0
        have db := (hbw.cell (p := ⟨bb, ob + k, none⟩) hbb).trans cb0
        have hx1 := HV.out.1 x (List.mem_of_getElem? hx)
        have hy1 := HV.out.2 y (List.mem_of_getElem? hy)
        have hst := sumsK_step HS.out hlt hx hy
        have hkl : k < (sumsK va vb k n).length := by rw [sumsK_length HS.out hk]; exact hlt
        obtain ⟨vz, v0⟩ : ∃ vz, wr.cell? ⟨gV, k, none⟩ = some vz := ⟨_, by rw [KV.out.cell k, List.getElem?_toArray, List.getElem?_map, List.getElem?_eq_getElem hkl]; rfl⟩
        obtain ⟨z, hz⟩ : ∃ z, z = x + y := ⟨_, rfl⟩
        have hzI : (x : Int) + (y : Int) = (z : Int) := by omega
        have hzb : z ≤ 2097152 := by omega
        rw [← hz] at hst
        have v1 := KV.out.free k
        have HSt := hide hst
        clear ca0 cb0 hx hy hst hkl hz
        go_wp2_with fail
        go_region
        go_wp2_with fail
        go_roundw
        case rel =>
          refine ⟨k + 1, by omega, by go_num, hide (KX.out.far hne _).drew, ?_, hide (KA.out.far (by show w.heap.size ≠ gV; omega) _).drew, hide (KB.out.far (by show w.heap.size + 1 ≠ gV; omega) _).drew, hide (KR.out.far (by show w.heap.size + 1 + 1 ≠ gV; omega) _).drew, ?_⟩
          · have e := (KV.out.set_ k (.int .i64 (z : Nat))).drew
            rw [List.setIfInBounds_toArray, show (Value.int .i64 (z : Nat)) = (fun (x : Nat) => Value.int .i64 x) z from rfl, ← List.map_set, HSt.out] at e
            exact hide e
          · exact (hbw.setCell (p := ⟨gV, k, none⟩) (by show w.heap.size ≤ gV; omega) _).drew
        case measure => simp [intOf]; omega
      · obtain rfl : k = n := by omega
        have r0 := KR.out.free 0
        have r1 := KR.out.free 1
        obtain ⟨q0, q1⟩ := two_cells KR.out
        go_wp2_with fail
        refine bodyPost_ret (v := .agg #[.int .u64 (W : Nat), .slice (some ⟨gV, 0, none⟩) k k]) (by simp [results, Try.results57, go_sem, q0, q1]) rfl ?_
        refine ⟨gV, rfl, ?_, by omega, ?_⟩
        · have e := KV.out
          rw [sumsK_all HS.out] at e
          exact (e.far (by show gV ≠ w.heap.size + 1 + 1; omega) _).far (by show gV ≠ w.heap.size + 1 + 1; omega) _
        · exact (hbw.setCell (p := ⟨w.heap.size + 1 + 1, 0, none⟩) (by show w.heap.size ≤ w.heap.size + 1 + 1; omega) _).setCell (p := ⟨w.heap.size + 1 + 1, 1, none⟩) (by show w.heap.size ≤ w.heap.size + 1 + 1; omega) _
#print axioms both_any
end Go.Proofs.Ytggffiikfelbjaa
