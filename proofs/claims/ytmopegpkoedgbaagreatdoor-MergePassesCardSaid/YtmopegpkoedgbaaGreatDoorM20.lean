/- Lemmas for the row: FlowI, IsT. -/
import Derived.Test.YtmopegpkoedgbaaGreatDoorM17
import Derived.Test.YtmopegpkoedgbaaGreatDoorM19
set_option linter.unusedVariables false
set_option linter.unusedSimpArgs false
/- Walk: errors.Is of a *flow.trouble at an Errno. Its text is walked. -/
namespace Go.Proofs.YtmopegpkoedgbaaGreatDoor
open Go.RowKit Go.Extern.Stop Go.Stop Go.Extern

theorem isComparableE (w : World) : ((ReflectliteType.method fun t => do Rtype.noPackHeld "Comparable" t; Functor.map (fun a => Value.bool a.comparable) (typeInfo t)) #[.agg #[.pointer (some ⟨5, 30, none⟩)]]).run Tryz.prog w = .ok (.bool true) w := by kernel_rfl
theorem isMethodComparable (n : Nat) (h : Value) (w : World) : (Go.method (n + 1) 244 (.agg #[h]) "Comparable").run Tryz.prog w = .ok (272, .agg #[h]) w := by kernel_rfl
theorem isNoIsF (v : Value) (xT : TypeId) (w : World) : (Instr.typeAssert (.iface 148 v) xT 246 true).run Tryz.prog w = .ok (.tuple #[.nilIface, .bool false]) w := run_typeAssert_lacksB Tryz.underlying246 (by kernel_rfl) (by kernel_rfl) v xT w
theorem isNoIsE (v : Value) (xT : TypeId) (w : World) : (Instr.typeAssert (.iface 30 v) xT 246 true).run Tryz.prog w = .ok (.tuple #[.nilIface, .bool false]) w := run_typeAssert_lacksB Tryz.underlying246 (by kernel_rfl) (by kernel_rfl) v xT w
theorem isNoUnE (v : Value) (xT : TypeId) (w : World) : (Instr.typeAssert (.iface 30 v) xT 249 true).run Tryz.prog w = .ok (.tuple #[.nilIface, .bool false]) w := run_typeAssert_lacksB Tryz.underlying249 (by kernel_rfl) (by kernel_rfl) v xT w
theorem isNoUsE (v : Value) (xT : TypeId) (w : World) : (Instr.typeAssert (.iface 30 v) xT 251 true).run Tryz.prog w = .ok (.tuple #[.nilIface, .bool false]) w := run_typeAssert_lacksB Tryz.underlying251 (by kernel_rfl) (by kernel_rfl) v xT w
theorem isEqE (n m : Int) (w : World) : (binOp .eql 71 (.iface 30 (.int .i64 n)) (.iface 30 (.int .i64 m))).run Tryz.prog w = .ok (.bool (n == m)) w := by kernel_rfl
theorem isCompE : (Tryz.prog.info? 30).map (·.comparable) = some true := by kernel_rfl
set_option maxRecDepth 100000 in
set_option maxHeartbeats 4000000 in
theorem is_trouble (f : Nat) (s : ByteArray) (n m : Int) (w : World) (hF : Bk w f 150 #[.string s, .iface 30 (.int .i64 n)]) :
    Calls Tryz.prog 84 #[.iface 148 (.pointer (some ⟨f, 0, none⟩)), .iface 30 (.int .i64 m)] w fun ev w' => ev = .returned (.bool (n == m)) ∧ w' = w := by
  have h10 := @run_callFunc_extern Tryz.prog 126 _ ReflectliteType.typeOf Tryz.func126 (by kernel_rfl) (by kernel_rfl) (by kernel_rfl) (by kernel_rfl)
  have h32 := @run_callFunc_extern Tryz.prog 272 _ (ReflectliteType.method fun t => do Rtype.noPackHeld "Comparable" t; pure (.bool (← typeInfo t).comparable)) Tryz.func272 (by kernel_rfl) (by kernel_rfl) (by kernel_rfl) (by kernel_rfl)
  obtain ⟨i, hi, hcmp⟩ := Option.map_eq_some_iff.1 isCompE
  have tO := asTypeOfE
  have cE := isComparableE
  have mR := isMethodComparable
  have nF := isNoIsF
  have nE := isNoIsE
  have uF := asUnwrapF
  have uE := isNoUnE
  have vE := isNoUsE
  have mU := asMethodUnwrap
  have hty := run_eql_iface_types (P := Tryz.prog) 148 30 (.pointer (some ⟨f, 0, none⟩)) (.int .i64 m) Tryz.underlying71 (by decide) w
  have hee := isEqE n m w
  obtain ⟨q0, q1⟩ := two_cells hF
  have hfl := hF.lt
  clear hF
  by_cases hnm : n = m
  · have hb : (n == m) = true := by simp [hnm]
    rw [hb] at hee ⊢
    clear hnm hb
    go_enter Tryz.func84, Tryz.ntmps84
    go_wp2
    refine wp_loop_rounds 2 ?_
    rw [rounds_succ]
    go_wp2
    rw [rounds_succ]
    go_wp2
    all_goals first
      | (refine bodyPost_ret (v := .bool true) (by simp [results, Tryz.results84, go_sem]) rfl ?_; exact ⟨rfl, rfl⟩)
      | (simp only [Array.getD_eq_getD_getElem?, List.getElem?_toArray, List.getElem?_cons_succ, List.getElem?_cons_zero, Option.getD_some]; go_wp2; refine bodyPost_ret (v := .bool true) (by simp [results, Tryz.results84, go_sem]) rfl ?_; exact ⟨rfl, rfl⟩)
  · have hb : (n == m) = false := by simp [hnm]
    rw [hb] at hee ⊢
    clear hnm hb
    go_enter Tryz.func84, Tryz.ntmps84
    go_wp2
    refine wp_loop_rounds 2 ?_
    rw [rounds_succ]
    go_wp2
    rw [rounds_succ]
    go_wp2
    all_goals first
      | (refine bodyPost_ret (v := .bool false) (by simp [results, Tryz.results84, go_sem]) rfl ?_; exact ⟨rfl, rfl⟩)
      | (simp only [Array.getD_eq_getD_getElem?, List.getElem?_toArray, List.getElem?_cons_succ, List.getElem?_cons_zero, Option.getD_some]; go_wp2; refine bodyPost_ret (v := .bool false) (by simp [results, Tryz.results84, go_sem]) rfl ?_; exact ⟨rfl, rfl⟩)
end Go.Proofs.YtmopegpkoedgbaaGreatDoor
/- Walk: errors.Is of a *flow.trouble at a sentinel. Its text is walked. -/
namespace Go.Proofs.YtmopegpkoedgbaaGreatDoor
open Go.RowKit Go.Extern.Stop Go.Stop Go.Extern

set_option maxRecDepth 100000 in
set_option maxHeartbeats 4000000 in
theorem is_trouble_sentinel (f : Nat) (s : ByteArray) (n : Int) (o : Addr) (w : World) (hF : Bk w f 150 #[.string s, .iface 30 (.int .i64 n)]) :
    Calls Tryz.prog 84 #[.iface 148 (.pointer (some ⟨f, 0, none⟩)), .iface 324 (.pointer (some o))] w fun ev w' => ev = .returned (.bool false) ∧ w' = w := by
  have h10 := @run_callFunc_extern Tryz.prog 126 _ ReflectliteType.typeOf Tryz.func126 (by kernel_rfl) (by kernel_rfl) (by kernel_rfl) (by kernel_rfl)
  have h32 := @run_callFunc_extern Tryz.prog 272 _ isCmp Tryz.func272 (by kernel_rfl) (by kernel_rfl) (by kernel_rfl) (by kernel_rfl)
  have tT := isTypeOf
  have cT := isComparable
  have mR := isMethodComparableS
  have nF := isNoIsF
  have nE := isNoIsE
  have uF := asUnwrapF
  have uE := isNoUnE
  have vE := isNoUsE
  have mU := asMethodUnwrap
  have hty := run_eql_iface_types (P := Tryz.prog) 148 324 (.pointer (some ⟨f, 0, none⟩)) (.pointer (some o)) Tryz.underlying71 (by decide) w
  have hty2 := run_eql_iface_types (P := Tryz.prog) 30 324 (.int .i64 n) (.pointer (some o)) Tryz.underlying71 (by decide) w
  obtain ⟨q0, q1⟩ := two_cells hF
  have hfl := hF.lt
  clear hF
  go_enter Tryz.func84, Tryz.ntmps84
  go_wp2
  refine wp_loop_rounds 2 ?_
  rw [rounds_succ]
  go_wp2
  rw [rounds_succ]
  go_wp2
  all_goals first
    | (refine bodyPost_ret (v := .bool false) (by simp [results, Tryz.results84, go_sem]) rfl ?_; exact ⟨rfl, rfl⟩)
    | (simp only [Array.getD_eq_getD_getElem?, List.getElem?_toArray, List.getElem?_cons_succ, List.getElem?_cons_zero, Option.getD_some]; go_wp2; refine bodyPost_ret (v := .bool false) (by simp [results, Tryz.results84, go_sem]) rfl ?_; exact ⟨rfl, rfl⟩)
end Go.Proofs.YtmopegpkoedgbaaGreatDoor
