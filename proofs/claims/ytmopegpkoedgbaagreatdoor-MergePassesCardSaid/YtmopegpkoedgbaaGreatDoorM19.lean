/- Lemmas for the row: AsTr, Is. -/
import Derived.Test.YtmopegpkoedgbaaGreatDoorM01
import Derived.LaidEql
import Derived.RowKitTokens
import Derived.Stop.Asserts
set_option linter.unusedVariables false
set_option linter.unusedSimpArgs false
/- errors.As at a target of type *api.Errno: nil, and a *flow.trouble that wraps an Errno. Its text is walked. -/
namespace Go.Proofs.YtmopegpkoedgbaaGreatDoor
open Go.RowKit Go.Extern.Stop Go.Stop Go.Extern

theorem asValueOfT (t : Addr) (w : World) : (ReflectliteValue.unpack (.iface 188 (.pointer (some t)))).run Tryz.prog w
    = .ok (.agg #[.pointer (some ⟨5, 188, none⟩), .pointer (some ⟨w.heap.size, 0, none⟩), .int .u64 150]) (w.alloc (.cells #[.pointer (some t)] 188)) := by kernel_rfl
theorem asTypeT (a : Addr) (w : World) : (ReflectliteValue.methodAny (ReflectliteValue.valueError "reflectlite.Value.Type" 0) (fun t _ _ _ => ReflectliteType.toType t) #[.agg #[.pointer (some ⟨5, 188, none⟩), .pointer (some a), .int .u64 150]]).run Tryz.prog w
    = .ok (.iface 244 (.agg #[.pointer (some ⟨5, 188, none⟩)])) w := by kernel_rfl
theorem asMethodKind (n : Nat) (h : Value) (w : World) : (Go.method (n + 1) 244 (.agg #[h]) "Kind").run Tryz.prog w = .ok (260, h) w := by kernel_rfl
theorem asKindT (w : World) : ((ReflectliteType.abiMethod fun t => Functor.map (fun a : Nat => Value.int IntKind.u8 (a : Int)) (Rtype.kind t)) #[.pointer (some ⟨5, 188, none⟩)]).run Tryz.prog w = .ok (.int .u8 22) w := by kernel_rfl
theorem asKindE (w : World) : ((ReflectliteType.abiMethod fun t => Functor.map (fun a : Nat => Value.int IntKind.u8 (a : Int)) (Rtype.kind t)) #[.pointer (some ⟨5, 30, none⟩)]).run Tryz.prog w = .ok (.int .u8 2) w := by kernel_rfl
theorem as_rlm (z : Sem Value) (f : TypeId → Addr → Nat → Nat → Sem Value) (v : Value) :
    ReflectliteValue.method z f #[v] = (do match ← ReflectliteValue.parts v with | none => z | some (t, a, fl) => f t a fl (fl % 32)) := rfl
theorem asPartsT (a : Addr) (w : World) : (ReflectliteValue.parts (.agg #[.pointer (some ⟨5, 188, none⟩), .pointer (some a), .int .u64 150])).run Tryz.prog w = .ok (some (188, a, 150)) w := by kernel_rfl
theorem asIsNilT (a p : Addr) (W : World) (ha : W.cell? a = some (.pointer (some p))) :
    (ReflectliteValue.method (ReflectliteValue.valueError "reflectlite.Value.IsNil" 0) ReflectliteValue.isNil #[.agg #[.pointer (some ⟨5, 188, none⟩), .pointer (some a), .int .u64 150]]).run Tryz.prog W = .ok (.bool false) W := by
  rw [as_rlm]
  simp only [Sem.run_bind, asPartsT, Result.andThen]
  simp [ReflectliteValue.isNil, loadVar, isAgg, underlying, Tryz.underlying188, ha, Result.andThen]
theorem asMethodElem (n : Nat) (h : Value) (w : World) : (Go.method (n + 1) 244 (.agg #[h]) "Elem").run Tryz.prog w = .ok (273, .agg #[h]) w := by kernel_rfl
theorem asMethodImplements (n : Nat) (h : Value) (w : World) : (Go.method (n + 1) 244 (.agg #[h]) "Implements").run Tryz.prog w = .ok (274, .agg #[h]) w := by kernel_rfl
theorem asMethodAssignableTo (n : Nat) (h : Value) (w : World) : (Go.method (n + 1) 244 (.agg #[h]) "AssignableTo").run Tryz.prog w = .ok (271, .agg #[h]) w := by kernel_rfl
theorem asMethodUnwrap (n : Nat) (h : Value) (w : World) : (Go.method (n + 1) 148 h "Unwrap").run Tryz.prog w = .ok (266, h) w := by kernel_rfl
theorem asElemT (w : World) : (ReflectliteType.method ReflectliteType.elem #[.agg #[.pointer (some ⟨5, 188, none⟩)]]).run Tryz.prog w = .ok (.iface 244 (.agg #[.pointer (some ⟨5, 30, none⟩)])) w := by kernel_rfl
theorem asImplementsE (w : World) : (ReflectliteType.relation "Implements" ReflectliteType.implements_ #[.agg #[.pointer (some ⟨5, 30, none⟩)], .iface 244 (.agg #[.pointer (some ⟨5, 71, none⟩)])]).run Tryz.prog w = .ok (.bool true) w := by kernel_rfl
theorem asTypeOfE (v : Value) (w : World) : (ReflectliteType.typeOf #[.iface 30 v]).run Tryz.prog w = .ok (.iface 244 (.agg #[.pointer (some ⟨5, 30, none⟩)])) w := by kernel_rfl
theorem asTypeOfF (v : Value) (w : World) : (ReflectliteType.typeOf #[.iface 148 v]).run Tryz.prog w = .ok (.iface 244 (.agg #[.pointer (some ⟨5, 148, none⟩)])) w := by kernel_rfl
theorem asAssignableE (w : World) : (ReflectliteType.relation "AssignableTo" ReflectliteType.assignableTo #[.agg #[.pointer (some ⟨5, 30, none⟩)], .iface 244 (.agg #[.pointer (some ⟨5, 30, none⟩)])]).run Tryz.prog w = .ok (.bool true) w := by kernel_rfl
theorem asAssignableF (w : World) : (ReflectliteType.relation "AssignableTo" ReflectliteType.assignableTo #[.agg #[.pointer (some ⟨5, 148, none⟩)], .iface 244 (.agg #[.pointer (some ⟨5, 30, none⟩)])]).run Tryz.prog w = .ok (.bool false) w := by kernel_rfl
theorem asValueOfE (n : Int) (w : World) : (ReflectliteValue.unpack (.iface 30 (.int .i64 n))).run Tryz.prog w
    = .ok (.agg #[.pointer (some ⟨5, 30, none⟩), .pointer (some ⟨w.heap.size, 0, none⟩), .int .u64 130]) (w.alloc (.cells #[.int .i64 n] 30)) := by kernel_rfl
theorem asElemOfT (w : World) : (Rtype.elem? 188).run Tryz.prog w = .ok (some 30) w := by kernel_rfl
theorem asMkE (p : Addr) (w : World) : (ReflectliteValue.mk 30 p ReflectliteValue.flagAddr).run Tryz.prog w = .ok (.agg #[.pointer (some ⟨5, 30, none⟩), .pointer (some p), .int .u64 386]) w := by kernel_rfl
theorem asElemVT (a p : Addr) (W : World) (ha : W.cell? a = some (.pointer (some p))) :
    (ReflectliteValue.method (ReflectliteValue.valueError "reflectlite.Value.Elem" 0) ReflectliteValue.elem #[.agg #[.pointer (some ⟨5, 188, none⟩), .pointer (some a), .int .u64 150]]).run Tryz.prog W
      = .ok (.agg #[.pointer (some ⟨5, 30, none⟩), .pointer (some p), .int .u64 386]) W := by
  rw [as_rlm]
  simp only [Sem.run_bind, asPartsT, Result.andThen]
  simp [ReflectliteValue.elem, loadVar, isAgg, underlying, Tryz.underlying188, ha, Result.andThen, asElemOfT, asMkE]
theorem as_rls (v x : Value) : ReflectliteValue.set #[v, x] = (do
    let (some (dst, a, fl), some (src, b, _)) := (← ReflectliteValue.parts v, ← ReflectliteValue.parts x)
      | unsupported (.noEntry "extern/(internal/reflectlite.Value).Set.zeroValue")
    if fl / ReflectliteValue.flagAddr % 2 == 0 then unsupported (.noEntry "extern/(internal/reflectlite.Value).Set.unaddressable")
    let val ← loadVar src b
    if ← Rtype.directlyAssignable dst src then storeVar dst a val
    else if ← Rtype.implements dst src then
      if (← Rtype.kind src) == 20 then
        match val with
        | .nilIface => unsupported (.noEntry "extern/reflectlite: a nil value of one interface type handed on as a value of another")
        | _ => storeVar dst a val
      else storeVar dst a (.iface src val)
    else panicString ("reflectlite.Set: value of type " ++ (← Rtype.spelt src) ++ " is not assignable to type " ++ (← Rtype.spelt dst))
    pure (.tuple #[])) := rfl
theorem asPartsEa (a : Addr) (w : World) : (ReflectliteValue.parts (.agg #[.pointer (some ⟨5, 30, none⟩), .pointer (some a), .int .u64 386])).run Tryz.prog w = .ok (some (30, a, 386)) w := by kernel_rfl
theorem asPartsE (a : Addr) (w : World) : (ReflectliteValue.parts (.agg #[.pointer (some ⟨5, 30, none⟩), .pointer (some a), .int .u64 130])).run Tryz.prog w = .ok (some (30, a, 130)) w := by kernel_rfl
theorem asDirectE (w : World) : (Rtype.directlyAssignable 30 30).run Tryz.prog w = .ok true w := by kernel_rfl
theorem asSetE (ta b : Addr) (n : Int) (old : Value) (W : World) (hb : W.cell? b = some (.int .i64 n)) (ht : W.cell? ta = some old) (hf : W.frozen? ta = false) :
    (ReflectliteValue.set #[.agg #[.pointer (some ⟨5, 30, none⟩), .pointer (some ta), .int .u64 386], .agg #[.pointer (some ⟨5, 30, none⟩), .pointer (some b), .int .u64 130]]).run Tryz.prog W
      = .ok (.tuple #[]) (W.setCell ta (.int .i64 n)) := by
  rw [as_rls]
  simp only [Sem.run_bind, asPartsEa, asPartsE, Result.andThen]
  simp [ReflectliteValue.flagAddr, loadVar, isAgg, underlying, Tryz.underlying30, hb, Result.andThen, asDirectE, storeVar, Value.cells, storeCells, Addr.add]
  rw [run_store Tryz.prog W ta _ _ (by rfl)]
  simp [ht, hf]
theorem asNoAsF (v : Value) (xT : TypeId) (w : World) : (Instr.typeAssert (.iface 148 v) xT 280 true).run Tryz.prog w = .ok (.tuple #[.nilIface, .bool false]) w := run_typeAssert_lacksB Tryz.underlying280 (by kernel_rfl) (by kernel_rfl) v xT w
theorem asUnwrapF (v : Value) (xT : TypeId) (w : World) : (Instr.typeAssert (.iface 148 v) xT 249 true).run Tryz.prog w = .ok (.tuple #[.iface 148 v, .bool true]) w := run_typeAssert_hasB Tryz.underlying249 (by kernel_rfl) v xT w
set_option maxRecDepth 100000 in
set_option maxHeartbeats 4000000 in
theorem as_trouble (f : Nat) (t : Addr) (s : ByteArray) (n : Int) (old : Value) (w : World) (hg : w.cell? ⟨1, 0, none⟩ = some (.iface 244 (.agg #[.pointer (some ⟨5, 71, none⟩)]))) (hF : Bk w f 150 #[.string s, .iface 30 (.int .i64 n)]) (ht0 : w.cell? t = some old) (hf0 : w.frozen? t = false) :
    Calls Tryz.prog 125 #[.iface 148 (.pointer (some ⟨f, 0, none⟩)), .iface 188 (.pointer (some t))] w fun ev w' => ev = .returned (.bool true) ∧ w' = ((((w.alloc (.cells #[.pointer (some t)] 188)).alloc (.cells #[.pointer (some ⟨5, 188, none⟩), .pointer (some ⟨w.heap.size, 0, none⟩), .int .u64 150] 236)).alloc (.cells #[.pointer (some ⟨5, 188, none⟩), .pointer (some ⟨w.heap.size, 0, none⟩), .int .u64 150] 236)).alloc (.cells #[.int .i64 n] 30)).setCell t (.int .i64 n) := by
  have h6 := @run_callFunc_extern Tryz.prog 162 _ (fun args => ReflectliteValue.unpack (args.getD 0 (.tuple #[]))) Tryz.func162 (by kernel_rfl) (by kernel_rfl) (by kernel_rfl) (by kernel_rfl)
  have h7 := @run_callFunc_extern Tryz.prog 163 _ (ReflectliteValue.methodAny (ReflectliteValue.valueError "reflectlite.Value.Type" 0) (fun t _ _ _ => ReflectliteType.toType t)) Tryz.func163 (by kernel_rfl) (by kernel_rfl) (by kernel_rfl) (by kernel_rfl)
  have h8 := @run_callFunc_extern Tryz.prog 164 _ (ReflectliteValue.method (ReflectliteValue.valueError "reflectlite.Value.IsNil" 0) ReflectliteValue.isNil) Tryz.func164 (by kernel_rfl) (by kernel_rfl) (by kernel_rfl) (by kernel_rfl)
  have h27 := @run_callFunc_extern Tryz.prog 260 _ (ReflectliteType.abiMethod fun t => do pure (.int .u8 (← Rtype.kind t))) Tryz.func260 (by kernel_rfl) (by kernel_rfl) (by kernel_rfl) (by kernel_rfl)
  have h37 := @run_callFunc_extern Tryz.prog 273 _ (ReflectliteType.method ReflectliteType.elem) Tryz.func273 (by kernel_rfl) (by kernel_rfl) (by kernel_rfl) (by kernel_rfl)
  have h38 := @run_callFunc_extern Tryz.prog 274 _ (ReflectliteType.relation "Implements" ReflectliteType.implements_) Tryz.func274 (by kernel_rfl) (by kernel_rfl) (by kernel_rfl) (by kernel_rfl)
  have h10 := @run_callFunc_extern Tryz.prog 126 _ ReflectliteType.typeOf Tryz.func126 (by kernel_rfl) (by kernel_rfl) (by kernel_rfl) (by kernel_rfl)
  have h35 := @run_callFunc_extern Tryz.prog 271 _ (ReflectliteType.relation "AssignableTo" ReflectliteType.assignableTo) Tryz.func271 (by kernel_rfl) (by kernel_rfl) (by kernel_rfl) (by kernel_rfl)
  have h11 := @run_callFunc_extern Tryz.prog 197 _ (ReflectliteValue.method (ReflectliteValue.valueError "reflectlite.Value.Elem" 0) ReflectliteValue.elem) Tryz.func197 (by kernel_rfl) (by kernel_rfl) (by kernel_rfl) (by kernel_rfl)
  have h12 := @run_callFunc_extern Tryz.prog 198 _ ReflectliteValue.set Tryz.func198 (by kernel_rfl) (by kernel_rfl) (by kernel_rfl) (by kernel_rfl)
  have tO := asTypeOfE
  have tF := asTypeOfF
  have mA := asMethodAssignableTo
  have mU := asMethodUnwrap
  have a25 := asAssignableE
  have aF := asAssignableF
  have v25 := asValueOfE
  have f6 := asValueOfT
  have f7 := asTypeT
  have mK := asMethodKind
  have mE := asMethodElem
  have mI := asMethodImplements
  have k27 := asKindT
  have k25 := asKindE
  have e27 := asElemT
  have i25 := asImplementsE
  have nA := asNoAsF
  have uF := asUnwrapF
  have hlt : 1 < w.heap.size := World.block_lt_of_cell? w _ hg
  have htl : t.block < w.heap.size := World.block_lt_of_cell? w _ ht0
  have hfl := hF.lt
  obtain ⟨W1, hW1⟩ : ∃ W1, W1 = w.alloc (.cells #[.pointer (some t)] 188) := ⟨_, rfl⟩
  obtain ⟨W2, hW2⟩ : ∃ W2, W2 = W1.alloc (.cells #[.pointer (some ⟨5, 188, none⟩), .pointer (some ⟨w.heap.size, 0, none⟩), .int .u64 150] 236) := ⟨_, rfl⟩
  obtain ⟨W3, hW3⟩ : ∃ W3, W3 = W2.alloc (.cells #[.pointer (some ⟨5, 188, none⟩), .pointer (some ⟨w.heap.size, 0, none⟩), .int .u64 150] 236) := ⟨_, rfl⟩
  have s1 : W1.heap.size = w.heap.size + 1 := by rw [hW1]; simp
  have s2 : W2.heap.size = w.heap.size + 1 + 1 := by rw [hW2]; simp [s1]
  have s3 : W3.heap.size = w.heap.size + 1 + 1 + 1 := by rw [hW3]; simp [s2]
  have n8 := asIsNilT ⟨w.heap.size, 0, none⟩ t W2 (by rw [hW2, World.cell?_alloc_lt _ _ ⟨w.heap.size, 0, none⟩ (by show w.heap.size < _; omega), hW1]; simp)
  have hg2 : W2.cell? ⟨1, 0, none⟩ = some (.iface 244 (.agg #[.pointer (some ⟨5, 71, none⟩)])) := by
    rw [hW2, World.cell?_alloc_lt _ _ ⟨1, 0, none⟩ (by show 1 < _; omega), hW1, World.cell?_alloc_lt _ _ ⟨1, 0, none⟩ hlt]; exact hg
  have hF3 : Bk W3 f 150 #[.string s, .iface 30 (.int .i64 n)] := by
    rw [hW3, hW2, hW1]; exact ((hF.alloc _).alloc _).alloc _
  obtain ⟨q0, q1⟩ := two_cells hF3
  have el := asElemVT ⟨w.heap.size, 0, none⟩ t W3 (by rw [hW3, World.cell?_alloc_lt _ _ ⟨w.heap.size, 0, none⟩ (by show w.heap.size < _; omega), hW2, World.cell?_alloc_lt _ _ ⟨w.heap.size, 0, none⟩ (by show w.heap.size < _; omega), hW1]; simp)
  have st := asSetE t ⟨w.heap.size + 1 + 1 + 1, 0, none⟩ n old (W3.alloc (.cells #[.int .i64 n] 30))
    (by rw [World.cell?_alloc_at _ _ _ _ s3.symm]; rfl)
    (by rw [World.cell?_alloc_lt _ _ t (by omega), hW3, World.cell?_alloc_lt _ _ t (by omega), hW2, World.cell?_alloc_lt _ _ t (by omega), hW1, World.cell?_alloc_lt _ _ t htl]; exact ht0)
    (by rw [World.frozen?_alloc_old _ _ t (by omega), hW3, World.frozen?_alloc_old _ _ t (by omega), hW2, World.frozen?_alloc_old _ _ t (by omega), hW1, World.frozen?_alloc_old _ _ t (by omega)]; exact hf0)
  subst hW3
  subst hW2
  subst hW1
  clear hg hF ht0 hf0 hF3 hlt htl hfl
  go_enter Tryz.func125, Tryz.ntmps125
  go_wp2
  refine wp_loop_rounds 2 ?_
  rw [rounds_succ]
  go_wp2
  rw [rounds_succ]
  go_wp2
  go_ret
  exact ⟨rfl, rfl⟩
end Go.Proofs.YtmopegpkoedgbaaGreatDoor
/- errors.Is at sentinels of errors.New's make: nil, the same one, another one. Its text is walked. -/
namespace Go.Proofs.YtmopegpkoedgbaaGreatDoor
open Go.RowKit Go.Extern.Stop Go.Stop Go.Extern

theorem isTypeOf (v : Value) (w : World) : (Extern.ReflectliteType.typeOf #[.iface 324 v]).run Tryz.prog w = .ok (.iface 244 (.agg #[.pointer (some ⟨5, 324, none⟩)])) w := by kernel_rfl
/-- What reflectlite says to Comparable. -/
def isCmp : Array Value → Sem Value := Extern.ReflectliteType.method fun t => do Go.Extern.Rtype.noPackHeld "Comparable" t; pure (.bool (← Go.typeInfo t).comparable)
theorem isComparable (w : World) : (isCmp #[.agg #[.pointer (some ⟨5, 324, none⟩)]]).run Tryz.prog w = .ok (.bool true) w := by kernel_rfl
theorem isMethodComparableS (n : Nat) (v : Value) (w : World) : (Go.method (n + 1) 244 v "Comparable").run Tryz.prog w = .ok (272, v) w := by kernel_rfl
theorem isComp : (Tryz.prog.info? 324).map (·.comparable) = some true := by kernel_rfl
theorem isSize : (Tryz.prog.info? 342).map (·.size) = some 1 := by kernel_rfl
set_option maxRecDepth 100000 in
theorem is_same (a : Addr) (w : World) :
    Calls Tryz.prog 84 #[.iface 324 (.pointer (some a)), .iface 324 (.pointer (some a))] w fun e w' => e = .returned (.bool true) ∧ w' = w := by
  obtain ⟨i, hi, hcmp⟩ := Option.map_eq_some_iff.1 isComp
  obtain ⟨j, hj, hjs⟩ := Option.map_eq_some_iff.1 isSize
  have h8 := @run_callFunc_extern Tryz.prog 126 _ Extern.ReflectliteType.typeOf Tryz.func126 (by kernel_rfl) (by kernel_rfl) (by kernel_rfl) (by kernel_rfl)
  have h32 := @run_callFunc_extern Tryz.prog 272 _ isCmp Tryz.func272 (by kernel_rfl) (by kernel_rfl) (by kernel_rfl) (by kernel_rfl)
  have tT := isTypeOf
  have cT := isComparable
  have mR := isMethodComparableS
  have heq := run_eql_iface_ptr_same (P := Tryz.prog) w a Tryz.underlying71 Tryz.underlying324 hi hcmp hj
  go_enter Tryz.func84, Tryz.ntmps84
  go_wp2
  refine wp_loop_rounds 1 ?_
  rw [rounds_succ]
  go_wp2
  go_ret
  exact ⟨rfl, rfl⟩

/-- errors.Is(nil, x). -/
theorem is_nil (b : Addr) (w : World) :
    Calls Tryz.prog 84 #[.nilIface, .iface 324 (.pointer (some b))] w fun e w' => e = .returned (.bool false) ∧ w' = w := by
  have hn := run_eql_iface_nil_left (P := Tryz.prog) w 324 (.pointer (some b)) Tryz.underlying71
  go_enter Tryz.func84, Tryz.ntmps84
  go_wp2
  go_ret
  exact ⟨rfl, rfl⟩


end Go.Proofs.YtmopegpkoedgbaaGreatDoor
