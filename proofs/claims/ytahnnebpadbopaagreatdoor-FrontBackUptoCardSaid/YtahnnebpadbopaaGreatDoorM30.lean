/- Lemmas for the row: FsB, FsE, FsF. -/
import Derived.Test.YtahnnebpadbopaaGreatDoorM26
import Derived.Test.YtahnnebpadbopaaGreatDoorM28
import Derived.Test.YtahnnebpadbopaaGreatDoorM29
import Derived.LaidEql
import Derived.RowKitTokens
import Derived.Stop.Asserts
set_option linter.unusedVariables false
/- errors.As at its first link: an Errno at a target of type *api.Errno, a *front.fault at one of type **front.fault. Printed by gen_fsb.py. -/
namespace Go.Proofs.YtahnnebpadbopaaGreatDoor
open Go.RowKit Go.Extern.Stop Go.Stop Go.Extern

/-- errors.As(nil, target). -/
theorem as_nil (t : Value) (w : World) : Calls Tryz.prog 19 #[.nilIface, t] w fun e w' => e = .returned (.bool false) ∧ w' = w := by
  go_enter Tryz.func19, Tryz.ntmps19
  go_wp2
  go_ret
  exact ⟨rfl, rfl⟩
theorem asValueOfTE (t : Addr) (w : World) : (ReflectliteValue.unpack (.iface 51 (.pointer (some t)))).run Tryz.prog w
    = .ok (.agg #[.pointer (some ⟨14, 51, none⟩), .pointer (some ⟨w.heap.size, 0, none⟩), .int .u64 150]) (w.alloc (.cells #[.pointer (some t)] 51)) := by kernel_rfl
theorem asTypeTE (a : Addr) (w : World) : (ReflectliteValue.methodAny (ReflectliteValue.valueError "reflectlite.Value.Type" 0) (fun t _ _ _ => ReflectliteType.toType t) #[.agg #[.pointer (some ⟨14, 51, none⟩), .pointer (some a), .int .u64 150]]).run Tryz.prog w
    = .ok (.iface 120 (.agg #[.pointer (some ⟨14, 51, none⟩)])) w := by kernel_rfl
theorem asMethodKindE (n : Nat) (h : Value) (w : World) : (Go.method (n + 1) 120 (.agg #[h]) "Kind").run Tryz.prog w = .ok (522, h) w := by kernel_rfl
theorem asKindTE (w : World) : ((ReflectliteType.abiMethod fun t => Functor.map (fun a : Nat => Value.int IntKind.u8 (a : Int)) (Rtype.kind t)) #[.pointer (some ⟨14, 51, none⟩)]).run Tryz.prog w = .ok (.int .u8 22) w := by kernel_rfl
theorem asKindEE (w : World) : ((ReflectliteType.abiMethod fun t => Functor.map (fun a : Nat => Value.int IntKind.u8 (a : Int)) (Rtype.kind t)) #[.pointer (some ⟨14, 23, none⟩)]).run Tryz.prog w = .ok (.int .u8 2) w := by kernel_rfl
theorem as_rlm (z : Sem Value) (f : TypeId → Addr → Nat → Nat → Sem Value) (v : Value) :
    ReflectliteValue.method z f #[v] = (do match ← ReflectliteValue.parts v with | none => z | some (t, a, fl) => f t a fl (fl % 32)) := rfl
theorem asPartsTE (a : Addr) (w : World) : (ReflectliteValue.parts (.agg #[.pointer (some ⟨14, 51, none⟩), .pointer (some a), .int .u64 150])).run Tryz.prog w = .ok (some (51, a, 150)) w := by kernel_rfl
theorem asIsNilTE (a p : Addr) (W : World) (ha : W.cell? a = some (.pointer (some p))) :
    (ReflectliteValue.method (ReflectliteValue.valueError "reflectlite.Value.IsNil" 0) ReflectliteValue.isNil #[.agg #[.pointer (some ⟨14, 51, none⟩), .pointer (some a), .int .u64 150]]).run Tryz.prog W = .ok (.bool false) W := by
  rw [as_rlm]
  simp only [Sem.run_bind, asPartsTE, Result.andThen]
  simp [ReflectliteValue.isNil, loadVar, isAgg, underlying, Tryz.underlying51, ha, Result.andThen]
theorem asMethodElemE (n : Nat) (h : Value) (w : World) : (Go.method (n + 1) 120 (.agg #[h]) "Elem").run Tryz.prog w = .ok (535, .agg #[h]) w := by kernel_rfl
theorem asMethodImplementsE (n : Nat) (h : Value) (w : World) : (Go.method (n + 1) 120 (.agg #[h]) "Implements").run Tryz.prog w = .ok (536, .agg #[h]) w := by kernel_rfl
theorem asMethodAssignableToE (n : Nat) (h : Value) (w : World) : (Go.method (n + 1) 120 (.agg #[h]) "AssignableTo").run Tryz.prog w = .ok (533, .agg #[h]) w := by kernel_rfl
theorem asElemTE (w : World) : (ReflectliteType.method ReflectliteType.elem #[.agg #[.pointer (some ⟨14, 51, none⟩)]]).run Tryz.prog w = .ok (.iface 120 (.agg #[.pointer (some ⟨14, 23, none⟩)])) w := by kernel_rfl
theorem asImplementsEE (w : World) : (ReflectliteType.relation "Implements" ReflectliteType.implements_ #[.agg #[.pointer (some ⟨14, 23, none⟩)], .iface 120 (.agg #[.pointer (some ⟨14, 43, none⟩)])]).run Tryz.prog w = .ok (.bool true) w := by kernel_rfl
theorem asTypeOfEE (v : Value) (w : World) : (ReflectliteType.typeOf #[.iface 23 v]).run Tryz.prog w = .ok (.iface 120 (.agg #[.pointer (some ⟨14, 23, none⟩)])) w := by kernel_rfl
theorem asAssignableEE (w : World) : (ReflectliteType.relation "AssignableTo" ReflectliteType.assignableTo #[.agg #[.pointer (some ⟨14, 23, none⟩)], .iface 120 (.agg #[.pointer (some ⟨14, 23, none⟩)])]).run Tryz.prog w = .ok (.bool true) w := by kernel_rfl
theorem asValueOfEE (n : Int) (w : World) : (ReflectliteValue.unpack (.iface 23 (.int .i64 n))).run Tryz.prog w
    = .ok (.agg #[.pointer (some ⟨14, 23, none⟩), .pointer (some ⟨w.heap.size, 0, none⟩), .int .u64 130]) (w.alloc (.cells #[.int .i64 n] 23)) := by kernel_rfl
theorem asElemOfTE (w : World) : (Rtype.elem? 51).run Tryz.prog w = .ok (some 23) w := by kernel_rfl
theorem asMkEE (p : Addr) (w : World) : (ReflectliteValue.mk 23 p ReflectliteValue.flagAddr).run Tryz.prog w = .ok (.agg #[.pointer (some ⟨14, 23, none⟩), .pointer (some p), .int .u64 386]) w := by kernel_rfl
theorem asElemVTE (a p : Addr) (W : World) (ha : W.cell? a = some (.pointer (some p))) :
    (ReflectliteValue.method (ReflectliteValue.valueError "reflectlite.Value.Elem" 0) ReflectliteValue.elem #[.agg #[.pointer (some ⟨14, 51, none⟩), .pointer (some a), .int .u64 150]]).run Tryz.prog W
      = .ok (.agg #[.pointer (some ⟨14, 23, none⟩), .pointer (some p), .int .u64 386]) W := by
  rw [as_rlm]
  simp only [Sem.run_bind, asPartsTE, Result.andThen]
  simp [ReflectliteValue.elem, loadVar, isAgg, underlying, Tryz.underlying51, ha, Result.andThen, asElemOfTE, asMkEE]
theorem as_rls (v x : Value) : ReflectliteValue.set #[v, x] = (do
    let (some (dst, a, fl), some (src, b, _)) := (← ReflectliteValue.parts v, ← ReflectliteValue.parts x)
      | unsupported (.noEntry "extern/(internal/reflectlite.Value).Set.zeroValue")
    if fl / ReflectliteValue.flagAddr % 2 == 0 then unsupported (.noEntry "extern/(internal/reflectlite.Value).Set.unaddressable")
    let val ← loadVar src b
    if ← Rtype.directlyAssignable dst src then storeVar dst a val
    else if ← Rtype.implements dst src then
      if (← Rtype.kind src) == 20 then
        match val with
        | .nilIface => unsupported (.noEntry "extern/reflectlite: a nil value of one interface type handed on as a value of another")
        | _ => storeVar dst a val
      else storeVar dst a (.iface src val)
    else panicString ("reflectlite.Set: value of type " ++ (← Rtype.spelt src) ++ " is not assignable to type " ++ (← Rtype.spelt dst))
    pure (.tuple #[])) := rfl
theorem asPartsEaE (a : Addr) (w : World) : (ReflectliteValue.parts (.agg #[.pointer (some ⟨14, 23, none⟩), .pointer (some a), .int .u64 386])).run Tryz.prog w = .ok (some (23, a, 386)) w := by kernel_rfl
theorem asPartsEE (a : Addr) (w : World) : (ReflectliteValue.parts (.agg #[.pointer (some ⟨14, 23, none⟩), .pointer (some a), .int .u64 130])).run Tryz.prog w = .ok (some (23, a, 130)) w := by kernel_rfl
theorem asDirectEE (w : World) : (Rtype.directlyAssignable 23 23).run Tryz.prog w = .ok true w := by kernel_rfl
theorem asSetEE (ta b : Addr) (n : Int) (old : Value) (W : World) (hb : W.cell? b = some (.int .i64 n)) (ht : W.cell? ta = some old) (hf : W.frozen? ta = false) :
    (ReflectliteValue.set #[.agg #[.pointer (some ⟨14, 23, none⟩), .pointer (some ta), .int .u64 386], .agg #[.pointer (some ⟨14, 23, none⟩), .pointer (some b), .int .u64 130]]).run Tryz.prog W
      = .ok (.tuple #[]) (W.setCell ta (.int .i64 n)) := by
  rw [as_rls]
  simp only [Sem.run_bind, asPartsEaE, asPartsEE, Result.andThen]
  simp [ReflectliteValue.flagAddr, loadVar, isAgg, underlying, Tryz.underlying23, hb, Result.andThen, asDirectEE, storeVar, Value.cells, storeCells, Addr.add]
  rw [run_store Tryz.prog W ta _ _ (by rfl)]
  simp [ht, hf]
set_option maxRecDepth 100000 in
set_option maxHeartbeats 4000000 in
theorem as_faultE (t : Addr) (n : Int) (old : Value) (w : World) (hg : w.cell? ⟨0, 0, none⟩ = some (.iface 120 (.agg #[.pointer (some ⟨14, 43, none⟩)]))) (ht0 : w.cell? t = some old) (hf0 : w.frozen? t = false) :
    Calls Tryz.prog 19 #[.iface 23 (.int .i64 n), .iface 51 (.pointer (some t))] w fun ev w' => ev = .returned (.bool true) ∧ w' = ((((w.alloc (.cells #[.pointer (some t)] 51)).alloc (.cells #[.pointer (some ⟨14, 51, none⟩), .pointer (some ⟨w.heap.size, 0, none⟩), .int .u64 150] 78)).alloc (.cells #[.pointer (some ⟨14, 51, none⟩), .pointer (some ⟨w.heap.size, 0, none⟩), .int .u64 150] 78)).alloc (.cells #[.int .i64 n] 23)).setCell t (.int .i64 n) := by
  have h6 := @run_callFunc_extern Tryz.prog 33 _ (fun args => ReflectliteValue.unpack (args.getD 0 (.tuple #[]))) Tryz.func33 (by kernel_rfl) (by kernel_rfl) (by kernel_rfl) (by kernel_rfl)
  have h7 := @run_callFunc_extern Tryz.prog 34 _ (ReflectliteValue.methodAny (ReflectliteValue.valueError "reflectlite.Value.Type" 0) (fun t _ _ _ => ReflectliteType.toType t)) Tryz.func34 (by kernel_rfl) (by kernel_rfl) (by kernel_rfl) (by kernel_rfl)
  have h8 := @run_callFunc_extern Tryz.prog 35 _ (ReflectliteValue.method (ReflectliteValue.valueError "reflectlite.Value.IsNil" 0) ReflectliteValue.isNil) Tryz.func35 (by kernel_rfl) (by kernel_rfl) (by kernel_rfl) (by kernel_rfl)
  have h27 := @run_callFunc_extern Tryz.prog 522 _ (ReflectliteType.abiMethod fun t => do pure (.int .u8 (← Rtype.kind t))) Tryz.func522 (by kernel_rfl) (by kernel_rfl) (by kernel_rfl) (by kernel_rfl)
  have h37 := @run_callFunc_extern Tryz.prog 535 _ (ReflectliteType.method ReflectliteType.elem) Tryz.func535 (by kernel_rfl) (by kernel_rfl) (by kernel_rfl) (by kernel_rfl)
  have h38 := @run_callFunc_extern Tryz.prog 536 _ (ReflectliteType.relation "Implements" ReflectliteType.implements_) Tryz.func536 (by kernel_rfl) (by kernel_rfl) (by kernel_rfl) (by kernel_rfl)
  have h10 := @run_callFunc_extern Tryz.prog 59 _ ReflectliteType.typeOf Tryz.func59 (by kernel_rfl) (by kernel_rfl) (by kernel_rfl) (by kernel_rfl)
  have h35 := @run_callFunc_extern Tryz.prog 533 _ (ReflectliteType.relation "AssignableTo" ReflectliteType.assignableTo) Tryz.func533 (by kernel_rfl) (by kernel_rfl) (by kernel_rfl) (by kernel_rfl)
  have h11 := @run_callFunc_extern Tryz.prog 60 _ (ReflectliteValue.method (ReflectliteValue.valueError "reflectlite.Value.Elem" 0) ReflectliteValue.elem) Tryz.func60 (by kernel_rfl) (by kernel_rfl) (by kernel_rfl) (by kernel_rfl)
  have h12 := @run_callFunc_extern Tryz.prog 61 _ ReflectliteValue.set Tryz.func61 (by kernel_rfl) (by kernel_rfl) (by kernel_rfl) (by kernel_rfl)
  have tO := asTypeOfEE
  have mA := asMethodAssignableToE
  have a25 := asAssignableEE
  have v25 := asValueOfEE
  have f6 := asValueOfTE
  have f7 := asTypeTE
  have mK := asMethodKindE
  have mE := asMethodElemE
  have mI := asMethodImplementsE
  have k27 := asKindTE
  have k25 := asKindEE
  have e27 := asElemTE
  have i25 := asImplementsEE
  have hlt : 0 < w.heap.size := World.block_lt_of_cell? w _ hg
  have htl : t.block < w.heap.size := World.block_lt_of_cell? w _ ht0
  obtain ⟨W1, hW1⟩ : ∃ W1, W1 = w.alloc (.cells #[.pointer (some t)] 51) := ⟨_, rfl⟩
  obtain ⟨W2, hW2⟩ : ∃ W2, W2 = W1.alloc (.cells #[.pointer (some ⟨14, 51, none⟩), .pointer (some ⟨w.heap.size, 0, none⟩), .int .u64 150] 78) := ⟨_, rfl⟩
  obtain ⟨W3, hW3⟩ : ∃ W3, W3 = W2.alloc (.cells #[.pointer (some ⟨14, 51, none⟩), .pointer (some ⟨w.heap.size, 0, none⟩), .int .u64 150] 78) := ⟨_, rfl⟩
  have s1 : W1.heap.size = w.heap.size + 1 := by rw [hW1]; simp
  have s2 : W2.heap.size = w.heap.size + 1 + 1 := by rw [hW2]; simp [s1]
  have s3 : W3.heap.size = w.heap.size + 1 + 1 + 1 := by rw [hW3]; simp [s2]
  have n8 := asIsNilTE ⟨w.heap.size, 0, none⟩ t W2 (by rw [hW2, World.cell?_alloc_lt _ _ ⟨w.heap.size, 0, none⟩ (by show w.heap.size < _; omega), hW1]; simp)
  have hg2 : W2.cell? ⟨0, 0, none⟩ = some (.iface 120 (.agg #[.pointer (some ⟨14, 43, none⟩)])) := by
    rw [hW2, World.cell?_alloc_lt _ _ ⟨0, 0, none⟩ (by show 0 < _; omega), hW1, World.cell?_alloc_lt _ _ ⟨0, 0, none⟩ hlt]; exact hg
  have el := asElemVTE ⟨w.heap.size, 0, none⟩ t W3 (by rw [hW3, World.cell?_alloc_lt _ _ ⟨w.heap.size, 0, none⟩ (by show w.heap.size < _; omega), hW2, World.cell?_alloc_lt _ _ ⟨w.heap.size, 0, none⟩ (by show w.heap.size < _; omega), hW1]; simp)
  have st := asSetEE t ⟨w.heap.size + 1 + 1 + 1, 0, none⟩ n old (W3.alloc (.cells #[.int .i64 n] 23))
    (by rw [World.cell?_alloc_at _ _ _ _ s3.symm]; rfl)
    (by rw [World.cell?_alloc_lt _ _ t (by omega), hW3, World.cell?_alloc_lt _ _ t (by omega), hW2, World.cell?_alloc_lt _ _ t (by omega), hW1, World.cell?_alloc_lt _ _ t htl]; exact ht0)
    (by rw [World.frozen?_alloc_old _ _ t (by omega), hW3, World.frozen?_alloc_old _ _ t (by omega), hW2, World.frozen?_alloc_old _ _ t (by omega), hW1, World.frozen?_alloc_old _ _ t (by omega)]; exact hf0)
  subst hW3
  subst hW2
  subst hW1
  clear hg ht0 hf0 hlt htl
  go_enter Tryz.func19, Tryz.ntmps19
  go_wp2
  refine wp_loop_rounds 1 ?_
  rw [rounds_succ]
  go_wp2
  go_ret
  exact ⟨rfl, rfl⟩
theorem asValueOfTG (t : Addr) (w : World) : (ReflectliteValue.unpack (.iface 48 (.pointer (some t)))).run Tryz.prog w
    = .ok (.agg #[.pointer (some ⟨14, 48, none⟩), .pointer (some ⟨w.heap.size, 0, none⟩), .int .u64 150]) (w.alloc (.cells #[.pointer (some t)] 48)) := by kernel_rfl
theorem asTypeTG (a : Addr) (w : World) : (ReflectliteValue.methodAny (ReflectliteValue.valueError "reflectlite.Value.Type" 0) (fun t _ _ _ => ReflectliteType.toType t) #[.agg #[.pointer (some ⟨14, 48, none⟩), .pointer (some a), .int .u64 150]]).run Tryz.prog w
    = .ok (.iface 120 (.agg #[.pointer (some ⟨14, 48, none⟩)])) w := by kernel_rfl
theorem asMethodKindG (n : Nat) (h : Value) (w : World) : (Go.method (n + 1) 120 (.agg #[h]) "Kind").run Tryz.prog w = .ok (522, h) w := by kernel_rfl
theorem asKindTG (w : World) : ((ReflectliteType.abiMethod fun t => Functor.map (fun a : Nat => Value.int IntKind.u8 (a : Int)) (Rtype.kind t)) #[.pointer (some ⟨14, 48, none⟩)]).run Tryz.prog w = .ok (.int .u8 22) w := by kernel_rfl
theorem asKindEG (w : World) : ((ReflectliteType.abiMethod fun t => Functor.map (fun a : Nat => Value.int IntKind.u8 (a : Int)) (Rtype.kind t)) #[.pointer (some ⟨14, 46, none⟩)]).run Tryz.prog w = .ok (.int .u8 22) w := by kernel_rfl
theorem asPartsTG (a : Addr) (w : World) : (ReflectliteValue.parts (.agg #[.pointer (some ⟨14, 48, none⟩), .pointer (some a), .int .u64 150])).run Tryz.prog w = .ok (some (48, a, 150)) w := by kernel_rfl
theorem asIsNilTG (a p : Addr) (W : World) (ha : W.cell? a = some (.pointer (some p))) :
    (ReflectliteValue.method (ReflectliteValue.valueError "reflectlite.Value.IsNil" 0) ReflectliteValue.isNil #[.agg #[.pointer (some ⟨14, 48, none⟩), .pointer (some a), .int .u64 150]]).run Tryz.prog W = .ok (.bool false) W := by
  rw [as_rlm]
  simp only [Sem.run_bind, asPartsTG, Result.andThen]
  simp [ReflectliteValue.isNil, loadVar, isAgg, underlying, Tryz.underlying48, ha, Result.andThen]
theorem asMethodElemG (n : Nat) (h : Value) (w : World) : (Go.method (n + 1) 120 (.agg #[h]) "Elem").run Tryz.prog w = .ok (535, .agg #[h]) w := by kernel_rfl
theorem asMethodImplementsG (n : Nat) (h : Value) (w : World) : (Go.method (n + 1) 120 (.agg #[h]) "Implements").run Tryz.prog w = .ok (536, .agg #[h]) w := by kernel_rfl
theorem asMethodAssignableToG (n : Nat) (h : Value) (w : World) : (Go.method (n + 1) 120 (.agg #[h]) "AssignableTo").run Tryz.prog w = .ok (533, .agg #[h]) w := by kernel_rfl
theorem asElemTG (w : World) : (ReflectliteType.method ReflectliteType.elem #[.agg #[.pointer (some ⟨14, 48, none⟩)]]).run Tryz.prog w = .ok (.iface 120 (.agg #[.pointer (some ⟨14, 46, none⟩)])) w := by kernel_rfl
theorem asImplementsEG (w : World) : (ReflectliteType.relation "Implements" ReflectliteType.implements_ #[.agg #[.pointer (some ⟨14, 46, none⟩)], .iface 120 (.agg #[.pointer (some ⟨14, 43, none⟩)])]).run Tryz.prog w = .ok (.bool true) w := by kernel_rfl
theorem asTypeOfEG (v : Value) (w : World) : (ReflectliteType.typeOf #[.iface 46 v]).run Tryz.prog w = .ok (.iface 120 (.agg #[.pointer (some ⟨14, 46, none⟩)])) w := by kernel_rfl
theorem asAssignableEG (w : World) : (ReflectliteType.relation "AssignableTo" ReflectliteType.assignableTo #[.agg #[.pointer (some ⟨14, 46, none⟩)], .iface 120 (.agg #[.pointer (some ⟨14, 46, none⟩)])]).run Tryz.prog w = .ok (.bool true) w := by kernel_rfl
theorem asValueOfEG (p : Addr) (w : World) : (ReflectliteValue.unpack (.iface 46 (.pointer (some p)))).run Tryz.prog w
    = .ok (.agg #[.pointer (some ⟨14, 46, none⟩), .pointer (some ⟨w.heap.size, 0, none⟩), .int .u64 150]) (w.alloc (.cells #[.pointer (some p)] 46)) := by kernel_rfl
theorem asElemOfTG (w : World) : (Rtype.elem? 48).run Tryz.prog w = .ok (some 46) w := by kernel_rfl
theorem asMkEG (p : Addr) (w : World) : (ReflectliteValue.mk 46 p ReflectliteValue.flagAddr).run Tryz.prog w = .ok (.agg #[.pointer (some ⟨14, 46, none⟩), .pointer (some p), .int .u64 406]) w := by kernel_rfl
theorem asElemVTG (a p : Addr) (W : World) (ha : W.cell? a = some (.pointer (some p))) :
    (ReflectliteValue.method (ReflectliteValue.valueError "reflectlite.Value.Elem" 0) ReflectliteValue.elem #[.agg #[.pointer (some ⟨14, 48, none⟩), .pointer (some a), .int .u64 150]]).run Tryz.prog W
      = .ok (.agg #[.pointer (some ⟨14, 46, none⟩), .pointer (some p), .int .u64 406]) W := by
  rw [as_rlm]
  simp only [Sem.run_bind, asPartsTG, Result.andThen]
  simp [ReflectliteValue.elem, loadVar, isAgg, underlying, Tryz.underlying48, ha, Result.andThen, asElemOfTG, asMkEG]
theorem asPartsEaG (a : Addr) (w : World) : (ReflectliteValue.parts (.agg #[.pointer (some ⟨14, 46, none⟩), .pointer (some a), .int .u64 406])).run Tryz.prog w = .ok (some (46, a, 406)) w := by kernel_rfl
theorem asPartsEG (a : Addr) (w : World) : (ReflectliteValue.parts (.agg #[.pointer (some ⟨14, 46, none⟩), .pointer (some a), .int .u64 150])).run Tryz.prog w = .ok (some (46, a, 150)) w := by kernel_rfl
theorem asDirectEG (w : World) : (Rtype.directlyAssignable 46 46).run Tryz.prog w = .ok true w := by kernel_rfl
theorem asSetEG (ta b : Addr) (p : Addr) (old : Value) (W : World) (hb : W.cell? b = some (.pointer (some p))) (ht : W.cell? ta = some old) (hf : W.frozen? ta = false) :
    (ReflectliteValue.set #[.agg #[.pointer (some ⟨14, 46, none⟩), .pointer (some ta), .int .u64 406], .agg #[.pointer (some ⟨14, 46, none⟩), .pointer (some b), .int .u64 150]]).run Tryz.prog W
      = .ok (.tuple #[]) (W.setCell ta (.pointer (some p))) := by
  rw [as_rls]
  simp only [Sem.run_bind, asPartsEaG, asPartsEG, Result.andThen]
  simp [ReflectliteValue.flagAddr, loadVar, isAgg, underlying, Tryz.underlying46, hb, Result.andThen, asDirectEG, storeVar, Value.cells, storeCells, Addr.add]
  rw [run_store Tryz.prog W ta _ _ (by rfl)]
  simp [ht, hf]
set_option maxRecDepth 100000 in
set_option maxHeartbeats 4000000 in
theorem as_faultG (t : Addr) (p : Addr) (old : Value) (w : World) (hg : w.cell? ⟨0, 0, none⟩ = some (.iface 120 (.agg #[.pointer (some ⟨14, 43, none⟩)]))) (ht0 : w.cell? t = some old) (hf0 : w.frozen? t = false) :
    Calls Tryz.prog 19 #[.iface 46 (.pointer (some p)), .iface 48 (.pointer (some t))] w fun ev w' => ev = .returned (.bool true) ∧ w' = ((((w.alloc (.cells #[.pointer (some t)] 48)).alloc (.cells #[.pointer (some ⟨14, 48, none⟩), .pointer (some ⟨w.heap.size, 0, none⟩), .int .u64 150] 78)).alloc (.cells #[.pointer (some ⟨14, 48, none⟩), .pointer (some ⟨w.heap.size, 0, none⟩), .int .u64 150] 78)).alloc (.cells #[.pointer (some p)] 46)).setCell t (.pointer (some p)) := by
  have h6 := @run_callFunc_extern Tryz.prog 33 _ (fun args => ReflectliteValue.unpack (args.getD 0 (.tuple #[]))) Tryz.func33 (by kernel_rfl) (by kernel_rfl) (by kernel_rfl) (by kernel_rfl)
  have h7 := @run_callFunc_extern Tryz.prog 34 _ (ReflectliteValue.methodAny (ReflectliteValue.valueError "reflectlite.Value.Type" 0) (fun t _ _ _ => ReflectliteType.toType t)) Tryz.func34 (by kernel_rfl) (by kernel_rfl) (by kernel_rfl) (by kernel_rfl)
  have h8 := @run_callFunc_extern Tryz.prog 35 _ (ReflectliteValue.method (ReflectliteValue.valueError "reflectlite.Value.IsNil" 0) ReflectliteValue.isNil) Tryz.func35 (by kernel_rfl) (by kernel_rfl) (by kernel_rfl) (by kernel_rfl)
  have h27 := @run_callFunc_extern Tryz.prog 522 _ (ReflectliteType.abiMethod fun t => do pure (.int .u8 (← Rtype.kind t))) Tryz.func522 (by kernel_rfl) (by kernel_rfl) (by kernel_rfl) (by kernel_rfl)
  have h37 := @run_callFunc_extern Tryz.prog 535 _ (ReflectliteType.method ReflectliteType.elem) Tryz.func535 (by kernel_rfl) (by kernel_rfl) (by kernel_rfl) (by kernel_rfl)
  have h38 := @run_callFunc_extern Tryz.prog 536 _ (ReflectliteType.relation "Implements" ReflectliteType.implements_) Tryz.func536 (by kernel_rfl) (by kernel_rfl) (by kernel_rfl) (by kernel_rfl)
  have h10 := @run_callFunc_extern Tryz.prog 59 _ ReflectliteType.typeOf Tryz.func59 (by kernel_rfl) (by kernel_rfl) (by kernel_rfl) (by kernel_rfl)
  have h35 := @run_callFunc_extern Tryz.prog 533 _ (ReflectliteType.relation "AssignableTo" ReflectliteType.assignableTo) Tryz.func533 (by kernel_rfl) (by kernel_rfl) (by kernel_rfl) (by kernel_rfl)
  have h11 := @run_callFunc_extern Tryz.prog 60 _ (ReflectliteValue.method (ReflectliteValue.valueError "reflectlite.Value.Elem" 0) ReflectliteValue.elem) Tryz.func60 (by kernel_rfl) (by kernel_rfl) (by kernel_rfl) (by kernel_rfl)
  have h12 := @run_callFunc_extern Tryz.prog 61 _ ReflectliteValue.set Tryz.func61 (by kernel_rfl) (by kernel_rfl) (by kernel_rfl) (by kernel_rfl)
  have tO := asTypeOfEG
  have mA := asMethodAssignableToG
  have a25 := asAssignableEG
  have v25 := asValueOfEG
  have f6 := asValueOfTG
  have f7 := asTypeTG
  have mK := asMethodKindG
  have mE := asMethodElemG
  have mI := asMethodImplementsG
  have k27 := asKindTG
  have k25 := asKindEG
  have e27 := asElemTG
  have i25 := asImplementsEG
  have hlt : 0 < w.heap.size := World.block_lt_of_cell? w _ hg
  have htl : t.block < w.heap.size := World.block_lt_of_cell? w _ ht0
  obtain ⟨W1, hW1⟩ : ∃ W1, W1 = w.alloc (.cells #[.pointer (some t)] 48) := ⟨_, rfl⟩
  obtain ⟨W2, hW2⟩ : ∃ W2, W2 = W1.alloc (.cells #[.pointer (some ⟨14, 48, none⟩), .pointer (some ⟨w.heap.size, 0, none⟩), .int .u64 150] 78) := ⟨_, rfl⟩
  obtain ⟨W3, hW3⟩ : ∃ W3, W3 = W2.alloc (.cells #[.pointer (some ⟨14, 48, none⟩), .pointer (some ⟨w.heap.size, 0, none⟩), .int .u64 150] 78) := ⟨_, rfl⟩
  have s1 : W1.heap.size = w.heap.size + 1 := by rw [hW1]; simp
  have s2 : W2.heap.size = w.heap.size + 1 + 1 := by rw [hW2]; simp [s1]
  have s3 : W3.heap.size = w.heap.size + 1 + 1 + 1 := by rw [hW3]; simp [s2]
  have n8 := asIsNilTG ⟨w.heap.size, 0, none⟩ t W2 (by rw [hW2, World.cell?_alloc_lt _ _ ⟨w.heap.size, 0, none⟩ (by show w.heap.size < _; omega), hW1]; simp)
  have hg2 : W2.cell? ⟨0, 0, none⟩ = some (.iface 120 (.agg #[.pointer (some ⟨14, 43, none⟩)])) := by
    rw [hW2, World.cell?_alloc_lt _ _ ⟨0, 0, none⟩ (by show 0 < _; omega), hW1, World.cell?_alloc_lt _ _ ⟨0, 0, none⟩ hlt]; exact hg
  have el := asElemVTG ⟨w.heap.size, 0, none⟩ t W3 (by rw [hW3, World.cell?_alloc_lt _ _ ⟨w.heap.size, 0, none⟩ (by show w.heap.size < _; omega), hW2, World.cell?_alloc_lt _ _ ⟨w.heap.size, 0, none⟩ (by show w.heap.size < _; omega), hW1]; simp)
  have st := asSetEG t ⟨w.heap.size + 1 + 1 + 1, 0, none⟩ p old (W3.alloc (.cells #[.pointer (some p)] 46))
    (by rw [World.cell?_alloc_at _ _ _ _ s3.symm]; rfl)
    (by rw [World.cell?_alloc_lt _ _ t (by omega), hW3, World.cell?_alloc_lt _ _ t (by omega), hW2, World.cell?_alloc_lt _ _ t (by omega), hW1, World.cell?_alloc_lt _ _ t htl]; exact ht0)
    (by rw [World.frozen?_alloc_old _ _ t (by omega), hW3, World.frozen?_alloc_old _ _ t (by omega), hW2, World.frozen?_alloc_old _ _ t (by omega), hW1, World.frozen?_alloc_old _ _ t (by omega)]; exact hf0)
  subst hW3
  subst hW2
  subst hW1
  clear hg ht0 hf0 hlt htl
  go_enter Tryz.func19, Tryz.ntmps19
  go_wp2
  refine wp_loop_rounds 1 ?_
  rw [rounds_succ]
  go_wp2
  go_ret
  exact ⟨rfl, rfl⟩
end Go.Proofs.YtahnnebpadbopaaGreatDoor
/- Walk: front.Parse. -/
namespace Go.Proofs.YtahnnebpadbopaaGreatDoor
open Go.RowKit

theorem as_f (g p : Nat) (w : World) (hL : Lay w) (hk : Bk w g 46 #[.pointer none]) :
    Calls Tryz.prog 19 #[.iface 46 (.pointer (some ⟨p, 0, none⟩)), .iface 48 (.pointer (some ⟨g, 0, none⟩))] w fun e w' => e = .returned (.bool true) ∧ Bk w' g 46 #[.pointer (some ⟨p, 0, none⟩)] ∧ Fr (fun k => k = g) w w' := by
  refine Calls.mono (as_faultG ⟨g, 0, none⟩ ⟨p, 0, none⟩ (.pointer none) w hL.ety (hk.cell 0) (hk.free 0)) ?_
  rintro e w' ⟨rfl, rfl⟩
  exact ⟨rfl, ((((hk.alloc _).alloc _).alloc _).alloc _).set_ 0 _, Fr.setCell (S := fun k => k = g) (a := w) (p := ⟨g, 0, none⟩) (((((Fr.refl _ w).alloc _).alloc _).alloc _).alloc _) (.inl rfl) _⟩
theorem as_e (g : Nat) (n : Int) (w : World) (hL : Lay w) (hk : Bk w g 23 #[.int .i64 0]) :
    Calls Tryz.prog 19 #[.iface 23 (.int .i64 n), .iface 51 (.pointer (some ⟨g, 0, none⟩))] w fun e w' => e = .returned (.bool true) ∧ Bk w' g 23 #[.int .i64 n] ∧ Fr (fun k => k = g) w w' := by
  refine Calls.mono (as_faultE ⟨g, 0, none⟩ n (.int .i64 0) w hL.ety (hk.cell 0) (hk.free 0)) ?_
  rintro e w' ⟨rfl, rfl⟩
  exact ⟨rfl, ((((hk.alloc _).alloc _).alloc _).alloc _).set_ 0 _, Fr.setCell (S := fun k => k = g) (a := w) (p := ⟨g, 0, none⟩) (((((Fr.refl _ w).alloc _).alloc _).alloc _).alloc _) (.inl rfl) _⟩
set_option maxRecDepth 100000 in
set_option maxHeartbeats 8000000 in
theorem fparse_any (s : ByteArray) (w : World) (hs : s.size ≤ 100000000) (hL : Lay w) :
    Calls Tryz.prog 7 #[.string s] w fun e w' => (∃ V, e = .returned (.tuple #[V, .int .i64 ((parseB (bl s)).2.1 : Nat), .int .i64 (parseB (bl s)).2.2]) ∧ StsO w' w.heap.size V (parseB (bl s)).1) ∧ Below w.heap.size w w' := by
  have hp := parse_any s w hs hL
  obtain ⟨R, hR⟩ : ∃ R, R = parseB (bl s) := ⟨_, rfl⟩
  rw [← hR] at hp ⊢
  have HP := hide hp
  have HL := hide hL
  clear hp hR hL
  go_enter Tryz.func7, Tryz.ntmps7
  go_upto_region 2 with (go_at_call 18; refine Calls.mono HP.out ?_; rintro e w1 ⟨hpa, hb1⟩; have HB1 := hide hb1; clear hb1; rcases hpa with ⟨h1, h2, V, rfl, h3⟩ | ⟨h1, h2, p, rfl, h3, h4⟩)
  · obtain ⟨l, n, z⟩ := R
    dsimp only at h1 h2 h3 ⊢
    subst h1 h2
    have h3' := h3
    obtain ⟨kvs, e1, e2, e3⟩ := h3'
    obtain ⟨A, c, rfl⟩ := own_formk e2
    have H3 := hide h3
    clear e1 e2 e3 h3 HP
    go_wp2_with (go_at_call 19; refine Calls.mono (as_nil _ _) ?_; rintro e w2 ⟨rfl, rfl⟩)
    refine bodyPost_ret (v := .tuple #[.slice A l.length c, .int .i64 (l.length : Nat), .int .i64 0]) (by simp [results, Tryz.results7, go_sem]) rfl ?_
    exact ⟨⟨_, rfl, H3.out.keep (ba2 _ _ _)⟩, HB1.out.trans ((ba2 _ _ _).mono HB1.out.size)⟩
  · obtain ⟨l, n, z⟩ := R
    dsimp only at h1 h2 h4 ⊢
    subst h1 h2
    obtain ⟨w2, hw2⟩ : ∃ w2, w2 = (w1.alloc (.cells #[.pointer none] 46)).alloc (.cells #[.int .i64 0] 23) := ⟨_, rfl⟩
    have k1 : Bk w2 w1.heap.size 46 #[.pointer none] := by rw [hw2]; exact (Bk.new _ _ _).alloc _
    have k2 : Bk w2 (w1.heap.size + 1) 23 #[.int .i64 0] := by rw [hw2]; exact Bk.new1 _ _ _ _
    have hb2 : Below w1.heap.size w1 w2 := by rw [hw2]; exact ba2 _ _ _
    have k3 := h4.keep hb2
    have HB2 := hide (HB1.out.trans (hb2.mono HB1.out.size))
    have HW2 := hide hw2
    have HK1 := hide k1
    have HK2 := hide k2
    have HK3 := hide k3
    have hlp : p < w1.heap.size := h4.lt
    have hz1 := HB1.out.size
    have hA := as_f w1.heap.size p w2 (HL.out.all HB2.out) k1
    have HA := hide hA
    have HL2 := hide (HL.out.all HB2.out)
    have hgs : 14 ≤ w1.heap.size := Nat.le_trans HL.out.size hz1
    have HGs := hide hgs
    clear hw2 k1 k2 k3 hb2 h4 hA hgs HP
    go_upto_region 4 with (fail)
    rw [← HW2.out]
    go_wp2_with (first
      | (have hx := HL3; clear hx; go_at_call 19; refine Calls.mono (as_e _ _ _ HL3.out HQ2.out) ?_; rintro e w4 ⟨rfl, m2, mf⟩; have n0 := m2.cell 0; have m1 := HQ1.out.fr mf (by omega); have n1 := m1.cell 0; have m3 := HR3.out.fr mf (by omega); have n2 := m3.cell 0; have HB4 := hide (HB3.out.trans (mf.toBelowB (fun k hk => by subst hk; omega) HB3.out.size)); clear m1 m2 m3 mf)
      | (go_at_call 19; refine Calls.mono HA.out ?_; rintro e w3 ⟨rfl, q1, qf⟩; have p0 := q1.cell 0; have r3 := HK3.out.fr qf (by omega); have u0 := r3.cell 0; have u1 := r3.cell 1; have q2 := HK2.out.fr qf (by omega); have HL3 := hide (HL2.out.fr qf HGs.out); have HB3 := hide (HB2.out.trans (qf.toBelowB (fun k hk => by subst hk; exact hz1) HB2.out.size)); have HQ1 := hide q1; have HR3 := hide r3; have HQ2 := hide q2; clear q1 r3 q2 qf))
    go_region
    all_goals go_wp2_with fail
    all_goals refine bodyPost_ret (v := .tuple #[.slice none 0 0, .int .i64 (n : Nat), .int .i64 7]) (by simp [results, Tryz.results7, go_sem]) rfl ?_
    all_goals exact ⟨⟨_, rfl, StsO.nil _ _⟩, HB4.out.drew⟩
end Go.Proofs.YtahnnebpadbopaaGreatDoor
/- Walk: wringerref32.Parse. -/
namespace Go.Proofs.YtahnnebpadbopaaGreatDoor
open Go.RowKit

theorem texts_len (s : List UInt8) : (textsB s).1.length ≤ s.length ∧ (textsB s).2.length ≤ s.length := by
  have h1 := uq_len s
  unfold textsB
  show (match begB (uq s).2 [32] with | none => ((uq s).1, []) | some r => ((uq s).1, (uq r).1)).1.length ≤ _ ∧ (match begB (uq s).2 [32] with | none => ((uq s).1, []) | some r => ((uq s).1, (uq r).1)).2.length ≤ _
  cases h : begB (uq s).2 [32] with
  | none => exact ⟨h1.1, Nat.zero_le _⟩
  | some r => exact ⟨h1.1, Nat.le_trans (uq_len r).1 (Nat.le_trans (begB_len h) h1.2)⟩
def SmB (n : Nat) (x : Stp) : Prop := x.nm.size ≤ n ∧ x.to_.size ≤ n ∧ x.tx.size ≤ n ∧ x.keep.length ≤ n
theorem guess_len (s : List UInt8) : SmB s.length (guessB s) := by
  have z : ∀ n, (⟨#[]⟩ : ByteArray).size ≤ n := fun n => Nat.zero_le n
  have q : ∀ {p r : List UInt8}, begB s p = some r → (blB (textsB r).1).size ≤ s.length ∧ (blB (textsB r).2).size ≤ s.length := fun h => by
    rw [blB_size, blB_size]
    exact ⟨Nat.le_trans (texts_len _).1 (begB_len h), Nat.le_trans (texts_len _).2 (begB_len h)⟩
  unfold guessB
  split
  · rename_i h; exact ⟨(q h).1, z _, (q h).2, Nat.zero_le _⟩
  · split
    · rename_i h; exact ⟨(q h).1, z _, z _, Nat.zero_le _⟩
    · split
      · rename_i h; exact ⟨(q h).1, z _, z _, Nat.zero_le _⟩
      · split
        · rename_i h; exact ⟨(q h).1, (q h).2, z _, Nat.zero_le _⟩
        · split
          · rename_i h; exact ⟨(q h).1, (q h).2, z _, Nat.zero_le _⟩
          · split
            · exact ⟨z _, z _, z _, Nat.zero_le _⟩
            · split
              · exact ⟨z _, z _, z _, Nat.zero_le _⟩
              · split
                · exact ⟨z _, z _, z _, Nat.zero_le _⟩
                · split
                  · exact ⟨z _, z _, z _, Nat.zero_le _⟩
                  · split
                    · rename_i h; exact ⟨z _, z _, z _, by rw [List.length_map]; exact begB_len h⟩
                    · exact ⟨z _, z _, z _, Nat.zero_le _⟩
theorem rp_step {s : List UInt8} {f i fr : Nat} {out : List Stp} {c : UInt8} (h : s[i]? = some c) : rparseF s (f + 1) i fr out = if c ≠ 10 then rparseF s f (i + 1) fr out else if rlineB (guessB ((s.take i).drop fr)) = some ((s.take i).drop fr) then rparseF s f (i + 1) (i + 1) (out ++ [guessB ((s.take i).drop fr)]) else ([], out.length, 7) := by rw [rparseF, h]
theorem rp_end {s : List UInt8} {f i fr : Nat} {out : List Stp} (h : s[i]? = none) : rparseF s (f + 1) i fr out = if fr < s.length then ([], out.length, 7) else (out, out.length, 0) := by rw [rparseF, h]
set_option maxRecDepth 100000 in
set_option maxHeartbeats 8000000 in
theorem rparse_any (s : ByteArray) (w : World) (hs : s.size ≤ 10000000) :
    Calls Tryz.prog 8 #[.string s] w fun e w' => (∃ V, e = .returned (.tuple #[V, .int .i64 ((rparseB (bl s)).2.1 : Nat), .int .i64 (rparseB (bl s)).2.2]) ∧ StsO w' w.heap.size V (rparseB (bl s)).1) ∧ Below w.heap.size w w' := by
  obtain ⟨R, hR⟩ : ∃ R, R = rparseB (bl s) := ⟨_, rfl⟩
  rw [← hR]
  have hR0 : R = rparseF (bl s) (s.size + 1) 0 0 [] := by rw [hR]; unfold rparseB; rw [bl_size]
  have HR0 := hide hR0
  clear hR hR0
  obtain ⟨i0, hi, hz0, hz1, hz2⟩ := info_parts info_stp
  go_enter Tryz.func8, Tryz.ntmps8
  go_wp2_with fail
  go_loopw [5, 6, 7] (fun ov fv iv wr => ∃ (k fr : Nat) (out : List Stp), iv = .int .i64 k ∧ fv = .int .i64 fr ∧ k ≤ s.size ∧ fr ≤ k ∧ out.length ≤ k ∧ Hid (R = rparseF (bl s) (s.size - k + 1) k fr out) ∧ Hid (StsO wr w.heap.size ov out) ∧ Hid (Below w.heap.size w wr)) (fun _ _ iv _ => s.size - (intOf iv).toNat)
  case atStart => exact ⟨0, 0, [], rfl, rfl, by omega, by omega, by simp, HR0, hide (StsO.nil _ _), hide (Below.refl _ _)⟩
  case round =>
    clear HR0
    obtain ⟨k, fr, out, rfl, rfl, hk, hfk, hol, hRr, hO, hB⟩ := hrel
    have hz := hB.out.size
    by_cases hlt : k < s.size
    · obtain ⟨c, hc⟩ : ∃ c, c = s[k]'hlt := ⟨_, rfl⟩
      have hcn : (s[k]'hlt).toNat = c.toNat := by rw [hc]
      have hck : (bl s)[k]? = some c := by rw [hc]; exact bl_at s k hlt
      obtain ⟨g, hg⟩ : ∃ g, s.size - k = g + 1 := ⟨s.size - k - 1, by omega⟩
      have hgk : g = s.size - (k + 1) := by omega
      have hRs := hRr.out
      rw [hg, rp_step hck] at hRs
      by_cases hc10 : c = 10
      · obtain ⟨T, hT⟩ : ∃ T, T = s.extract fr k := ⟨_, rfl⟩
        have hbT : bl T = ((bl s).take k).drop fr := by rw [hT, bl_extract]
        have hTe : s.extract fr k = T := hT.symm
        have hTs : (bl T).length ≤ 10000000 := by rw [hbT, List.length_drop, List.length_take, bl_size]; omega
        rw [if_neg (by simp [hc10]), ← hbT, hgk] at hRs
        have hcn10 : c.toNat = 10 := by rw [hc10]; rfl
        have hgs := fun W => guess_any T W (by rw [← bl_size]; omega)
        have hsm := guess_len (bl T)
        obtain ⟨st, hst⟩ : ∃ st, st = guessB (bl T) := ⟨_, rfl⟩
        rw [← hst] at hgs hsm hRs
        obtain ⟨m1, m2, m3, m4⟩ := hsm
        have HGs := hide hgs
        have HRs := hide hRs
        have hw1 : IntKind.i64.wrap ((k : Int) + 1) = ((k + 1 : Nat) : Int) := IntWalk.i64_in _ ⟨by omega, by omega⟩
        have hfI : (0 : Int) ≤ (fr : Int) := by omega
        have hfkI : (fr : Int) ≤ (k : Int) := by omega
        have hkI : (k : Int) ≤ (s.size : Int) := by omega
        obtain ⟨kvs, e1, e2, e3⟩ := hO.out
        obtain ⟨A4, c4, rfl⟩ := own_formk e2
        clear hgs hRs hst hc hck hRr hT hbT hc10 hg hgk e1 e2 e3
        go_upto_region 8 with (go_at_call 20; refine Calls.mono (HGs.out _) ?_; rintro e w2 ⟨⟨kv, rfl, hk⟩, hb2⟩; obtain ⟨A2, k2, rfl⟩ := own_formk hk; unfold stpV; have HK2 := hide hk; have HB2 := hide hb2; clear hk hb2)
        obtain ⟨W3, hW3⟩ : ∃ W3, W3 = w2.alloc (.cells #[.int .u8 (st.kind : Nat), .string st.nm, .string st.to_, .string st.tx, .int .i64 st.n, .slice A2 st.keep.length k2] 39) := ⟨_, rfl⟩
        rw [← hW3]
        have hb3 : Below wr.heap.size wr W3 := by rw [hW3]; exact HB2.out.trans ((ba1 _ _).mono HB2.out.size)
        have kx : Bk W3 w2.heap.size 39 #[.int .u8 (st.kind : Nat), .string st.nm, .string st.to_, .string st.tx, .int .i64 st.n, .slice A2 st.keep.length k2] := by rw [hW3]; exact Bk.new _ _ _
        have hk3 : KpO W3 w.heap.size (.slice A2 st.keep.length k2) st.keep := by
          rw [hW3]
          exact own_base (own_keep HK2.out (ba1 _ _)) (fun g hg => Nat.le_trans hz ((HK2.out.lt g hg).1))
        have hO3 := hO.out.keep hb3
        have x0 := kx.cell 0
        have x1 := kx.cell 1
        have x2 := kx.cell 2
        have x3 := kx.cell 3
        have x4 := kx.cell 4
        have x5 := kx.cell 5
        have lx := kx.lt
        have hz3 := hb3.size
        have hln := rline_any st.kind st.nm st.to_ st.tx st.n st.keep A2 k2 W3 (by omega) (by omega) (by omega) (by omega) (by obtain ⟨A', c', e', hr'⟩ := hk3.rd; cases e'; exact hr')
        obtain ⟨L, hL⟩ : ∃ L, L = rlineB st := ⟨_, rfl⟩
        rw [show (⟨st.kind, st.nm, st.to_, st.tx, st.n, st.keep⟩ : Stp) = st from rfl, ← hL] at hln
        have HRs2 := hide (show R = if L = some (bl T) then rparseF (bl s) (s.size - (k + 1) + 1) (k + 1) (k + 1) (out ++ [st]) else ([], out.length, 7) from by rw [hL]; exact HRs.out)
        have HKX := hide kx
        have HO3 := hide hO3
        have HB3 := hide (hB.out.trans (hb3.mono hz))
        have HK3 := hide hk3
        clear hW3 hb3 kx hk3 hO3 hL HK2 HB2 HGs HRs m1 m2 m3 m4
        have HEr := hide (show ∀ W, Below w.heap.size w W → R = ([], out.length, 7) → (∃ V, Ending.returned (.tuple #[.slice none 0 0, .int .i64 (out.length : Nat), .int .i64 7]) = .returned (.tuple #[V, .int .i64 (R.2.1 : Nat), .int .i64 R.2.2]) ∧ StsO W w.heap.size V R.1) ∧ Below w.heap.size w W from fun W hW hr => ⟨⟨_, by rw [hr], by rw [hr]; exact StsO.nil _ _⟩, hW⟩)
        cases L with
        | none =>
          have HLn := hide (show Calls Tryz.prog 21 #[.agg #[.int .u8 (st.kind : Nat), .string st.nm, .string st.to_, .string st.tx, .int .i64 st.n, .slice A2 st.keep.length k2]] W3 fun e w' => e = .returned (.tuple #[.string ⟨#[]⟩, .bool false]) ∧ Below W3.heap.size W3 w' from hln)
          have hRe : R = ([], out.length, 7) := by rw [HRs2.out, if_neg (by simp)]
          have HRe := hide hRe
          clear hln hRe HRs2
          go_wp2_with (go_at_call 21; refine Calls.mono HLn.out ?_; rintro e w4 ⟨rfl, hb4⟩; have HB4 := hide (HB3.out.trans (hb4.mono HB3.out.size)); clear hb4)
          refine bodyPost_ret (v := .tuple #[.slice none 0 0, .int .i64 (out.length : Nat), .int .i64 7]) (by simp [results, Tryz.results8, go_sem]) rfl ?_
          exact HEr.out _ HB4.out HRe.out
        | some t =>
          have HLn := hide (show Calls Tryz.prog 21 #[.agg #[.int .u8 (st.kind : Nat), .string st.nm, .string st.to_, .string st.tx, .int .i64 st.n, .slice A2 st.keep.length k2]] W3 fun e w' => e = .returned (.tuple #[.string (blB t), .bool true]) ∧ Below W3.heap.size W3 w' from hln)
          obtain ⟨Q, hQ⟩ : ∃ Q, Q = blB t := ⟨_, rfl⟩
          rw [← hQ] at HLn
          by_cases ht : t = bl T
          · have he : (Q.toList == T.toList) = true := by rw [hQ, ht, blB_bl]; simp
            have hRe : R = rparseF (bl s) (s.size - (k + 1) + 1) (k + 1) (k + 1) (out ++ [st]) := by rw [HRs2.out, if_pos (by rw [ht])]
            have HRe := hide hRe
            clear hln hRe HRs2 ht hQ
            go_wp2_with (first
              | (go_at_call 21; refine Calls.mono HLn.out ?_; rintro e w4 ⟨rfl, hb4⟩; have kx4 := HKX.out.keep hb4; have y0 := kx4.cell 0; have y1 := kx4.cell 1; have y2 := kx4.cell 2; have y3 := kx4.cell 3; have y4 := kx4.cell 4; have y5 := kx4.cell 5; have lx4 := kx4.lt; have HO4 := hide (HO3.out.keep hb4); have HK4 := hide (show KpO w4 _ _ _ from own_keep HK3.out hb4); obtain ⟨kvs, e1, e2, e3⟩ := HO4.out; have HE1 := hide e1; have HE2 := hide e2; have HE3 := hide e3; have HB4 := hide (HB3.out.trans (hb4.mono HB3.out.size)); clear hb4 kx4 e1 e2 e3)
              | (at_builtin; refine wpList_append_own _ rfl (.tmp 43) (.tmp 45) 22 rfl w.heap.size 39 i0 _ 6 88 Tryz.underlying22 hi hz0 hz1 hz2 rfl (by decide) (.slice A4 out.length c4) out.length _ rfl (HE2.out.alloc _) ⟨w4.heap.size, 0, none⟩ 1 1 (stpC st (.slice A2 st.keep.length k2)) rfl rfl (World.news_of_block (Bk.new _ _ _)) (by intro u hu; simp [stpC] at hu; rcases hu with rfl | rfl | rfl | rfl | rfl | rfl <;> rfl) (by unfold maxLen; omega) (by omega) (by have := HB4.out.size; simp; omega) ?_; intro v5 w5 hown5 hgr5 _; have HO5 := hide hown5; have HG5 := hide hgr5; clear hown5 hgr5))
            exact ⟨⟨k + 1, k + 1, out ++ [st], by simp, by simp, by omega, by omega, by simp; omega, HRe, hide (StsO.put (w := w4.alloc _) HE1.out (HE2.out.alloc _) (fun i s u a b => own_keep (HE3.out i s u a b) (ba1 _ _)) (own_keep HK4.out (ba1 _ _)) HO5.out HG5.out), hide ((HB4.out.alloc HB4.out.size _).grown HG5.out (by have := HB4.out.size; simp; omega) (fun g hg => (HE2.out.lt g hg).1))⟩, by simp [intOf]; omega⟩
          · have he : (Q.toList == T.toList) = false := by rw [beq_eq_false_iff_ne]; exact fun e => ht (by have := congrArg bl (toList_inj' e); rwa [hQ, bl_blB] at this)
            have hRe : R = ([], out.length, 7) := by rw [HRs2.out, if_neg (fun e => ht (Option.some.inj e))]
            have HRe := hide hRe
            clear hln hRe HRs2 ht hQ
            go_wp2_with (go_at_call 21; refine Calls.mono HLn.out ?_; rintro e w4 ⟨rfl, hb4⟩; have HB4 := hide (HB3.out.trans (hb4.mono HB3.out.size)); clear hb4)
            refine bodyPost_ret (v := .tuple #[.slice none 0 0, .int .i64 (out.length : Nat), .int .i64 7]) (by simp [results, Tryz.results8, go_sem]) rfl ?_
            exact HEr.out _ HB4.out HRe.out
      · have hn : ((c.toNat : Int) == 10) = false := byte_ne 10 hc10
        rw [if_pos hc10, hgk] at hRs
        have HRs := hide hRs
        clear hRs hck hRr hc hg hgk
        obtain ⟨kvs, e1, e2, e3⟩ := hO.out
        obtain ⟨A4, c4, rfl⟩ := own_formk e2
        clear e1 e2 e3
        go_wp2_with fail
        exact ⟨⟨k + 1, fr, out, by simp, rfl, by omega, by omega, by omega, HRs, hO, hB⟩, by simp [intOf]; omega⟩
    · obtain rfl : k = s.size := by omega
      have hRe := hRr.out
      rw [rp_end (List.getElem?_eq_none (by rw [bl_size]; exact Nat.le_refl _)), bl_size] at hRe
      obtain ⟨kvs, e1, e2, e3⟩ := hO.out
      obtain ⟨A4, c4, rfl⟩ := own_formk e2
      by_cases hfs : fr < s.size
      · rw [if_pos hfs] at hRe
        have HRe := hide hRe
        clear hRe hRr e1 e2 e3
        go_wp2_with fail
        refine bodyPost_ret (v := .tuple #[.slice none 0 0, .int .i64 (out.length : Nat), .int .i64 7]) (by simp [results, Tryz.results8, go_sem]) rfl ?_
        exact ⟨⟨_, by rw [HRe.out], by rw [HRe.out]; exact StsO.nil _ _⟩, hB.out⟩
      · rw [if_neg hfs] at hRe
        have HRe := hide hRe
        clear hRe hRr e1 e2 e3
        go_wp2_with fail
        refine bodyPost_ret (v := .tuple #[.slice A4 out.length c4, .int .i64 (out.length : Nat), .int .i64 0]) (by simp [results, Tryz.results8, go_sem]) rfl ?_
        exact ⟨⟨_, by rw [HRe.out], by rw [HRe.out]; exact hO.out⟩, hB.out⟩
end Go.Proofs.YtahnnebpadbopaaGreatDoor
