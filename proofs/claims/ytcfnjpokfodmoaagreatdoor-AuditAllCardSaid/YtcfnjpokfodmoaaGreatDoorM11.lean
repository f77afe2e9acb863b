/- Lemmas for the row: Is, AsErr, Err. -/
import Derived.Test.YtcfnjpokfodmoaaGreatDoorM01
import Derived.LaidEql
import Derived.RowKitTokens
import Derived.Stop.Asserts
set_option maxRecDepth 100000
set_option linter.unusedVariables false
namespace Go.Proofs.YtcfnjpokfodmoaaGreatDoor
open Go.RowKit Go.Extern.Stop Go.Stop Go.Extern
theorem isTypeOf (v:Value) (w:World):(Extern.ReflectliteType.typeOf #[.iface 346 v]).run Tryz.prog w = .ok (.iface 240 (.agg #[.pointer (some ⟨11,346,none⟩)])) w:=by kernel_rfl
def isCmp:Array Value → Sem Value:=Extern.ReflectliteType.method fun t => do Go.Extern.Rtype.noPackHeld "Comparable" t;pure (.bool (← Go.typeInfo t).comparable)
theorem isComparable (w:World):(isCmp #[.agg #[.pointer (some ⟨11,346,none⟩)]]).run Tryz.prog w = .ok (.bool true) w:=by kernel_rfl
theorem isMethodComparable (n:Nat) (v:Value) (w:World):(Go.method (n + 1) 240 v "Comparable").run Tryz.prog w = .ok (300,v) w:=by kernel_rfl
theorem isComp:(Tryz.prog.info? 346).map (·.comparable) = some true:=by kernel_rfl
theorem isSize:(Tryz.prog.info? 348).map (·.size) = some 1:=by kernel_rfl
theorem noIsE (v:Value) (xT:TypeId) (w:World):(Instr.typeAssert (.iface 346 v) xT 310 true).run Tryz.prog w = .ok (.tuple #[.nilIface,.bool false]) w:=run_typeAssert_lacksB Tryz.underlying310 (by kernel_rfl) (by kernel_rfl) v xT w
theorem noUnwrapE (v:Value) (xT:TypeId) (w:World):(Instr.typeAssert (.iface 346 v) xT 248 true).run Tryz.prog w = .ok (.tuple #[.nilIface,.bool false]) w:=run_typeAssert_lacksB Tryz.underlying248 (by kernel_rfl) (by kernel_rfl) v xT w
theorem noUnwrapsE (v:Value) (xT:TypeId) (w:World):(Instr.typeAssert (.iface 346 v) xT 250 true).run Tryz.prog w = .ok (.tuple #[.nilIface,.bool false]) w:=run_typeAssert_lacksB Tryz.underlying250 (by kernel_rfl) (by kernel_rfl) v xT w
theorem is_same (a:Addr) (w:World) :
 Calls Tryz.prog 129 #[.iface 346 (.pointer (some a)),.iface 346 (.pointer (some a))] w fun e w' => e = .returned (.bool true) ∧ w' = w:=by
 obtain ⟨i,hi,hcmp⟩:=Option.map_eq_some_iff.1 isComp
 obtain ⟨j,hj,hjs⟩:=Option.map_eq_some_iff.1 isSize
 have h8:=@run_callFunc_extern Tryz.prog 160 _ Extern.ReflectliteType.typeOf Tryz.func160 (by kernel_rfl) (by kernel_rfl) (by kernel_rfl) (by kernel_rfl)
 have h32:=@run_callFunc_extern Tryz.prog 300 _ isCmp Tryz.func300 (by kernel_rfl) (by kernel_rfl) (by kernel_rfl) (by kernel_rfl)
 have tT:=isTypeOf
 have cT:=isComparable
 have mR:=isMethodComparable
 have heq:=run_eql_iface_ptr_same (P:=Tryz.prog) w a Tryz.underlying64 Tryz.underlying346 hi hcmp hj
 go_enter Tryz.func129,Tryz.ntmps129
 go_wp2
 refine wp_loop_rounds 1 ?_
 rw [rounds_succ]
 go_wp2
 go_ret
 exact ⟨rfl,rfl⟩
theorem is_nil (b:Addr) (w:World) :
 Calls Tryz.prog 129 #[.nilIface,.iface 346 (.pointer (some b))] w fun e w' => e = .returned (.bool false) ∧ w' = w:=by
 have hn:=run_eql_iface_nil_left (P:=Tryz.prog) w 346 (.pointer (some b)) Tryz.underlying64
 go_enter Tryz.func129,Tryz.ntmps129
 go_wp2
 go_ret
 exact ⟨rfl,rfl⟩
theorem is_other (a b:Addr) (ca cb:Array Value) (ta tb:TypeId) (w:World) (hne:a ≠ b) (ha:w.heap[a.block]? = some (.cells ca ta (0,0))) (hb:w.heap[b.block]? = some (.cells cb tb (0,0))) :
 Calls Tryz.prog 129 #[.iface 346 (.pointer (some a)),.iface 346 (.pointer (some b))] w fun e w' => e = .returned (.bool false) ∧ w' = w:=by
 obtain ⟨i,hi,hcmp⟩:=Option.map_eq_some_iff.1 isComp
 obtain ⟨j,hj,hjs⟩:=Option.map_eq_some_iff.1 isSize
 have h8:=@run_callFunc_extern Tryz.prog 160 _ Extern.ReflectliteType.typeOf Tryz.func160 (by kernel_rfl) (by kernel_rfl) (by kernel_rfl) (by kernel_rfl)
 have h32:=@run_callFunc_extern Tryz.prog 300 _ isCmp Tryz.func300 (by kernel_rfl) (by kernel_rfl) (by kernel_rfl) (by kernel_rfl)
 have tT:=isTypeOf
 have cT:=isComparable
 have mR:=isMethodComparable
 have nE:=noIsE
 have uE:=noUnwrapE
 have vE:=noUnwrapsE
 have heq:=run_eql_iface_ptr_other (P:=Tryz.prog) w Tryz.underlying64 Tryz.underlying346 hi hcmp hj (by rw [hjs];decide) hne ha hb
 go_enter Tryz.func129,Tryz.ntmps129
 go_wp2
 refine wp_loop_rounds 1 ?_
 rw [rounds_succ]
 go_wp2
 go_ret
 exact ⟨rfl,rfl⟩
theorem as_nil (t:Value) (w:World):Calls Tryz.prog 76 #[.nilIface,t] w fun e w' => e = .returned (.bool false) ∧ w' = w:=by
 go_enter Tryz.func76,Tryz.ntmps76
 go_wp2
 go_ret
 exact ⟨rfl,rfl⟩
theorem asValueOfT (t:Addr) (w:World):(ReflectliteValue.unpack (.iface 121 (.pointer (some t)))).run Tryz.prog w
 = .ok (.agg #[.pointer (some ⟨11,121,none⟩),.pointer (some ⟨w.heap.size,0,none⟩),.int .u64 150]) (w.alloc (.cells #[.pointer (some t)] 121)):=by kernel_rfl
theorem asTypeT (a:Addr) (w:World):(ReflectliteValue.methodAny (ReflectliteValue.valueError "reflectlite.Value.Type" 0) (fun t _ _ _ => ReflectliteType.toType t) #[.agg #[.pointer (some ⟨11,121,none⟩),.pointer (some a),.int .u64 150]]).run Tryz.prog w
 = .ok (.iface 240 (.agg #[.pointer (some ⟨11,121,none⟩)])) w:=by kernel_rfl
theorem asMethodKind (n:Nat) (h:Value) (w:World):(Go.method (n + 1) 240 (.agg #[h]) "Kind").run Tryz.prog w = .ok (288,h) w:=by kernel_rfl
theorem asKindT (w:World):((ReflectliteType.abiMethod fun t => Functor.map (fun a : Nat => Value.int IntKind.u8 (a : Int)) (Rtype.kind t)) #[.pointer (some ⟨11,121,none⟩)]).run Tryz.prog w = .ok (.int .u8 22) w:=by kernel_rfl
theorem asKindE (w:World):((ReflectliteType.abiMethod fun t => Functor.map (fun a : Nat => Value.int IntKind.u8 (a : Int)) (Rtype.kind t)) #[.pointer (some ⟨11,29,none⟩)]).run Tryz.prog w = .ok (.int .u8 2) w:=by kernel_rfl
theorem as_rlm (z:Sem Value) (f:TypeId → Addr → Nat → Nat → Sem Value) (v:Value) :
 ReflectliteValue.method z f #[v] = (do match ← ReflectliteValue.parts v with | none => z | some (t,a,fl) => f t a fl (fl % 32)):=rfl
theorem asPartsT (a:Addr) (w:World):(ReflectliteValue.parts (.agg #[.pointer (some ⟨11,121,none⟩),.pointer (some a),.int .u64 150])).run Tryz.prog w = .ok (some (121,a,150)) w:=by kernel_rfl
theorem asIsNilT (a p:Addr) (W:World) (ha:W.cell? a = some (.pointer (some p))) :
 (ReflectliteValue.method (ReflectliteValue.valueError "reflectlite.Value.IsNil" 0) ReflectliteValue.isNil #[.agg #[.pointer (some ⟨11,121,none⟩),.pointer (some a),.int .u64 150]]).run Tryz.prog W = .ok (.bool false) W:=by
 rw [as_rlm]
 simp only [Sem.run_bind,asPartsT,Result.andThen]
 simp [ReflectliteValue.isNil,loadVar,isAgg,underlying,Tryz.underlying121,ha,Result.andThen]
theorem asMethodElem (n:Nat) (h:Value) (w:World):(Go.method (n + 1) 240 (.agg #[h]) "Elem").run Tryz.prog w = .ok (301,.agg #[h]) w:=by kernel_rfl
theorem asMethodImplements (n:Nat) (h:Value) (w:World):(Go.method (n + 1) 240 (.agg #[h]) "Implements").run Tryz.prog w = .ok (302,.agg #[h]) w:=by kernel_rfl
theorem asMethodAssignableTo (n:Nat) (h:Value) (w:World):(Go.method (n + 1) 240 (.agg #[h]) "AssignableTo").run Tryz.prog w = .ok (299,.agg #[h]) w:=by kernel_rfl
theorem asMethodUnwrap (n:Nat) (h:Value) (w:World):(Go.method (n + 1) 168 h "Unwrap").run Tryz.prog w = .ok (294,h) w:=by kernel_rfl
theorem asElemT (w:World):(ReflectliteType.method ReflectliteType.elem #[.agg #[.pointer (some ⟨11,121,none⟩)]]).run Tryz.prog w = .ok (.iface 240 (.agg #[.pointer (some ⟨11,29,none⟩)])) w:=by kernel_rfl
theorem asImplementsE (w:World):(ReflectliteType.relation "Implements" ReflectliteType.implements_ #[.agg #[.pointer (some ⟨11,29,none⟩)],.iface 240 (.agg #[.pointer (some ⟨11,64,none⟩)])]).run Tryz.prog w = .ok (.bool true) w:=by kernel_rfl
theorem asTypeOfE (v:Value) (w:World):(ReflectliteType.typeOf #[.iface 29 v]).run Tryz.prog w = .ok (.iface 240 (.agg #[.pointer (some ⟨11,29,none⟩)])) w:=by kernel_rfl
theorem asTypeOfF (v:Value) (w:World):(ReflectliteType.typeOf #[.iface 168 v]).run Tryz.prog w = .ok (.iface 240 (.agg #[.pointer (some ⟨11,168,none⟩)])) w:=by kernel_rfl
theorem asAssignableE (w:World):(ReflectliteType.relation "AssignableTo" ReflectliteType.assignableTo #[.agg #[.pointer (some ⟨11,29,none⟩)],.iface 240 (.agg #[.pointer (some ⟨11,29,none⟩)])]).run Tryz.prog w = .ok (.bool true) w:=by kernel_rfl
theorem asAssignableF (w:World):(ReflectliteType.relation "AssignableTo" ReflectliteType.assignableTo #[.agg #[.pointer (some ⟨11,168,none⟩)],.iface 240 (.agg #[.pointer (some ⟨11,29,none⟩)])]).run Tryz.prog w = .ok (.bool false) w:=by kernel_rfl
theorem asValueOfE (n:Int) (w:World):(ReflectliteValue.unpack (.iface 29 (.int .i64 n))).run Tryz.prog w
 = .ok (.agg #[.pointer (some ⟨11,29,none⟩),.pointer (some ⟨w.heap.size,0,none⟩),.int .u64 130]) (w.alloc (.cells #[.int .i64 n] 29)):=by kernel_rfl
theorem asElemOfT (w:World):(Rtype.elem? 121).run Tryz.prog w = .ok (some 29) w:=by kernel_rfl
theorem asMkE (p:Addr) (w:World):(ReflectliteValue.mk 29 p ReflectliteValue.flagAddr).run Tryz.prog w = .ok (.agg #[.pointer (some ⟨11,29,none⟩),.pointer (some p),.int .u64 386]) w:=by kernel_rfl
theorem asElemVT (a p:Addr) (W:World) (ha:W.cell? a = some (.pointer (some p))) :
 (ReflectliteValue.method (ReflectliteValue.valueError "reflectlite.Value.Elem" 0) ReflectliteValue.elem #[.agg #[.pointer (some ⟨11,121,none⟩),.pointer (some a),.int .u64 150]]).run Tryz.prog W
   = .ok (.agg #[.pointer (some ⟨11,29,none⟩),.pointer (some p),.int .u64 386]) W:=by
 rw [as_rlm]
 simp only [Sem.run_bind,asPartsT,Result.andThen]
 simp [ReflectliteValue.elem,loadVar,isAgg,underlying,Tryz.underlying121,ha,Result.andThen,asElemOfT,asMkE]
theorem as_rls (v x:Value):ReflectliteValue.set #[v,x] = (do
 let (some (dst,a,fl),some (src,b,_)):=(← ReflectliteValue.parts v,← ReflectliteValue.parts x)
  | unsupported (.noEntry "extern/(internal/reflectlite.Value).Set.zeroValue")
 if fl / ReflectliteValue.flagAddr % 2 == 0 then unsupported (.noEntry "extern/(internal/reflectlite.Value).Set.unaddressable")
 let val ← loadVar src b
 if ← Rtype.directlyAssignable dst src then storeVar dst a val
 else if ← Rtype.implements dst src then
  if (← Rtype.kind src) == 20 then
   match val with
   | .nilIface => unsupported (.noEntry "extern/reflectlite: a nil value of one interface type handed on as a value of another")
   | _ => storeVar dst a val
  else storeVar dst a (.iface src val)
 else panicString ("reflectlite.Set: value of type " ++ (← Rtype.spelt src) ++ " is not assignable to type " ++ (← Rtype.spelt dst))
 pure (.tuple #[])):=rfl
theorem asPartsEa (a:Addr) (w:World):(ReflectliteValue.parts (.agg #[.pointer (some ⟨11,29,none⟩),.pointer (some a),.int .u64 386])).run Tryz.prog w = .ok (some (29,a,386)) w:=by kernel_rfl
theorem asPartsE (a:Addr) (w:World):(ReflectliteValue.parts (.agg #[.pointer (some ⟨11,29,none⟩),.pointer (some a),.int .u64 130])).run Tryz.prog w = .ok (some (29,a,130)) w:=by kernel_rfl
theorem asDirectE (w:World):(Rtype.directlyAssignable 29 29).run Tryz.prog w = .ok true w:=by kernel_rfl
theorem asSetE (ta b:Addr) (n:Int) (old:Value) (W:World) (hb:W.cell? b = some (.int .i64 n)) (ht:W.cell? ta = some old) (hf:W.frozen? ta = false) :
 (ReflectliteValue.set #[.agg #[.pointer (some ⟨11,29,none⟩),.pointer (some ta),.int .u64 386],.agg #[.pointer (some ⟨11,29,none⟩),.pointer (some b),.int .u64 130]]).run Tryz.prog W
   = .ok (.tuple #[]) (W.setCell ta (.int .i64 n)):=by
 rw [as_rls]
 simp only [Sem.run_bind,asPartsEa,asPartsE,Result.andThen]
 simp [ReflectliteValue.flagAddr,loadVar,isAgg,underlying,Tryz.underlying29,hb,Result.andThen,asDirectE,storeVar,Value.cells,storeCells,Addr.add]
 rw [run_store Tryz.prog W ta _ _ (by rfl)]
 simp [ht,hf]
theorem asNoAsF (v:Value) (xT:TypeId) (w:World):(Instr.typeAssert (.iface 168 v) xT 245 true).run Tryz.prog w = .ok (.tuple #[.nilIface,.bool false]) w:=run_typeAssert_lacksB Tryz.underlying245 (by kernel_rfl) (by kernel_rfl) v xT w
theorem asUnwrapF (v:Value) (xT:TypeId) (w:World):(Instr.typeAssert (.iface 168 v) xT 248 true).run Tryz.prog w = .ok (.tuple #[.iface 168 v,.bool true]) w:=run_typeAssert_hasB Tryz.underlying248 (by kernel_rfl) v xT w
set_option maxHeartbeats 4000000 in
theorem as_fault (f:Nat) (t:Addr) (s:ByteArray) (n:Int) (old:Value) (w:World) (hg:w.cell? ⟨0,0,none⟩ = some (.iface 240 (.agg #[.pointer (some ⟨11,64,none⟩)]))) (hF:Bk w f 170 #[.string s,.iface 29 (.int .i64 n)]) (ht0:w.cell? t = some old) (hf0:w.frozen? t = false) :
 Calls Tryz.prog 76 #[.iface 168 (.pointer (some ⟨f,0,none⟩)),.iface 121 (.pointer (some t))] w fun ev w' => ev = .returned (.bool true) ∧ w' = ((((w.alloc (.cells #[.pointer (some t)] 121)).alloc (.cells #[.pointer (some ⟨11,121,none⟩),.pointer (some ⟨w.heap.size,0,none⟩),.int .u64 150] 175)).alloc (.cells #[.pointer (some ⟨11,121,none⟩),.pointer (some ⟨w.heap.size,0,none⟩),.int .u64 150] 175)).alloc (.cells #[.int .i64 n] 29)).setCell t (.int .i64 n):=by
 have h6:=@run_callFunc_extern Tryz.prog 112 _ (fun args => ReflectliteValue.unpack (args.getD 0 (.tuple #[]))) Tryz.func112 (by kernel_rfl) (by kernel_rfl) (by kernel_rfl) (by kernel_rfl)
 have h7:=@run_callFunc_extern Tryz.prog 113 _ (ReflectliteValue.methodAny (ReflectliteValue.valueError "reflectlite.Value.Type" 0) (fun t _ _ _ => ReflectliteType.toType t)) Tryz.func113 (by kernel_rfl) (by kernel_rfl) (by kernel_rfl) (by kernel_rfl)
 have h8:=@run_callFunc_extern Tryz.prog 114 _ (ReflectliteValue.method (ReflectliteValue.valueError "reflectlite.Value.IsNil" 0) ReflectliteValue.isNil) Tryz.func114 (by kernel_rfl) (by kernel_rfl) (by kernel_rfl) (by kernel_rfl)
 have h27:=@run_callFunc_extern Tryz.prog 288 _ (ReflectliteType.abiMethod fun t => do pure (.int .u8 (← Rtype.kind t))) Tryz.func288 (by kernel_rfl) (by kernel_rfl) (by kernel_rfl) (by kernel_rfl)
 have h37:=@run_callFunc_extern Tryz.prog 301 _ (ReflectliteType.method ReflectliteType.elem) Tryz.func301 (by kernel_rfl) (by kernel_rfl) (by kernel_rfl) (by kernel_rfl)
 have h38:=@run_callFunc_extern Tryz.prog 302 _ (ReflectliteType.relation "Implements" ReflectliteType.implements_) Tryz.func302 (by kernel_rfl) (by kernel_rfl) (by kernel_rfl) (by kernel_rfl)
 have h10:=@run_callFunc_extern Tryz.prog 160 _ ReflectliteType.typeOf Tryz.func160 (by kernel_rfl) (by kernel_rfl) (by kernel_rfl) (by kernel_rfl)
 have h35:=@run_callFunc_extern Tryz.prog 299 _ (ReflectliteType.relation "AssignableTo" ReflectliteType.assignableTo) Tryz.func299 (by kernel_rfl) (by kernel_rfl) (by kernel_rfl) (by kernel_rfl)
 have h11:=@run_callFunc_extern Tryz.prog 161 _ (ReflectliteValue.method (ReflectliteValue.valueError "reflectlite.Value.Elem" 0) ReflectliteValue.elem) Tryz.func161 (by kernel_rfl) (by kernel_rfl) (by kernel_rfl) (by kernel_rfl)
 have h12:=@run_callFunc_extern Tryz.prog 162 _ ReflectliteValue.set Tryz.func162 (by kernel_rfl) (by kernel_rfl) (by kernel_rfl) (by kernel_rfl)
 have tO:=asTypeOfE
 have tF:=asTypeOfF
 have mA:=asMethodAssignableTo
 have mU:=asMethodUnwrap
 have a25:=asAssignableE
 have aF:=asAssignableF
 have v25:=asValueOfE
 have f6:=asValueOfT
 have f7:=asTypeT
 have mK:=asMethodKind
 have mE:=asMethodElem
 have mI:=asMethodImplements
 have k27:=asKindT
 have k25:=asKindE
 have e27:=asElemT
 have i25:=asImplementsE
 have nA:=asNoAsF
 have uF:=asUnwrapF
 have hlt:0 < w.heap.size:=World.block_lt_of_cell? w _ hg
 have htl:t.block < w.heap.size:=World.block_lt_of_cell? w _ ht0
 have hfl:=hF.lt
 obtain ⟨W1,hW1⟩:∃ W1,W1 = w.alloc (.cells #[.pointer (some t)] 121):=⟨_,rfl⟩
 obtain ⟨W2,hW2⟩:∃ W2,W2 = W1.alloc (.cells #[.pointer (some ⟨11,121,none⟩),.pointer (some ⟨w.heap.size,0,none⟩),.int .u64 150] 175):=⟨_,rfl⟩
 obtain ⟨W3,hW3⟩:∃ W3,W3 = W2.alloc (.cells #[.pointer (some ⟨11,121,none⟩),.pointer (some ⟨w.heap.size,0,none⟩),.int .u64 150] 175):=⟨_,rfl⟩
 have s1:W1.heap.size = w.heap.size + 1:=by rw [hW1];simp
 have s2:W2.heap.size = w.heap.size + 1 + 1:=by rw [hW2];simp [s1]
 have s3:W3.heap.size = w.heap.size + 1 + 1 + 1:=by rw [hW3];simp [s2]
 have n8:=asIsNilT ⟨w.heap.size,0,none⟩ t W2 (by rw [hW2,World.cell?_alloc_lt _ _ ⟨w.heap.size,0,none⟩ (by show w.heap.size < _;omega),hW1];simp)
 have hg2:W2.cell? ⟨0,0,none⟩ = some (.iface 240 (.agg #[.pointer (some ⟨11,64,none⟩)])):=by
  rw [hW2,World.cell?_alloc_lt _ _ ⟨0,0,none⟩ (by show 0 < _;omega),hW1,World.cell?_alloc_lt _ _ ⟨0,0,none⟩ hlt];exact hg
 have hF3:Bk W3 f 170 #[.string s,.iface 29 (.int .i64 n)]:=by
  rw [hW3,hW2,hW1];exact ((hF.alloc _).alloc _).alloc _
 obtain ⟨q0,q1⟩:=two_cells hF3
 have el:=asElemVT ⟨w.heap.size,0,none⟩ t W3 (by rw [hW3,World.cell?_alloc_lt _ _ ⟨w.heap.size,0,none⟩ (by show w.heap.size < _;omega),hW2,World.cell?_alloc_lt _ _ ⟨w.heap.size,0,none⟩ (by show w.heap.size < _;omega),hW1];simp)
 have st:=asSetE t ⟨w.heap.size + 1 + 1 + 1,0,none⟩ n old (W3.alloc (.cells #[.int .i64 n] 29))
  (by rw [World.cell?_alloc_at _ _ _ _ s3.symm];rfl)
  (by rw [World.cell?_alloc_lt _ _ t (by omega),hW3,World.cell?_alloc_lt _ _ t (by omega),hW2,World.cell?_alloc_lt _ _ t (by omega),hW1,World.cell?_alloc_lt _ _ t htl];exact ht0)
  (by rw [World.frozen?_alloc_old _ _ t (by omega),hW3,World.frozen?_alloc_old _ _ t (by omega),hW2,World.frozen?_alloc_old _ _ t (by omega),hW1,World.frozen?_alloc_old _ _ t (by omega)];exact hf0)
 subst hW3
 subst hW2
 subst hW1
 clear hg hF ht0 hf0 hF3 hlt htl hfl
 go_enter Tryz.func76,Tryz.ntmps76
 go_wp2
 refine wp_loop_rounds 2 ?_
 rw [rounds_succ]
 go_wp2
 rw [rounds_succ]
 go_wp2
 go_ret
 exact ⟨rfl,rfl⟩
open Go.RowKit
def ErrT (w:World):Prop:=w.cell? ⟨0,0,none⟩ = some (.iface 240 (.agg #[.pointer (some ⟨11,64,none⟩)]))
theorem ErrT.lt {w:World} (h:ErrT w):0 < w.heap.size:=World.block_lt_of_cell? w _ h
theorem ErrT.below {w w':World} {B:Nat} (h:ErrT w) (hb:Below B w w') (hB:0 < B):ErrT w':=(hb.cell (p:=⟨0,0,none⟩) hB).trans h
theorem ErrT.keep {w w':World} (h:ErrT w) (hb:Below w.heap.size w w'):ErrT w':=h.below hb h.lt
theorem ErrT.alloc {w:World} (h:ErrT w) (o:Obj):ErrT (w.alloc o):=(World.cell?_alloc_lt w o ⟨0,0,none⟩ h.lt).trans h
def ErrV (z:Int) (B:Nat) (v:Value) (w:World):Prop:=(z = 0 ∧ v = .nilIface) ∨ (z ≠ 0 ∧ ∃ f s,B ≤ f ∧ v = .iface 168 (.pointer (some ⟨f,0,none⟩)) ∧ Bk w f 170 #[.string s,.iface 29 (.int .i64 z)])
theorem ErrV.mono {z:Int} {B B':Nat} {v:Value} {w:World} (h:ErrV z B v w) (hB:B' ≤ B):ErrV z B' v w:=by
 rcases h with h | ⟨h,f,s,h1,h2,h3⟩
 · exact .inl h
 · exact .inr ⟨h,f,s,by omega,h2,h3⟩
theorem ErrV.keep {z:Int} {B:Nat} {v:Value} {w w':World} (h:ErrV z B v w) (hb:Below w.heap.size w w'):ErrV z B v w':=by
 rcases h with h | ⟨h,f,s,h1,h2,h3⟩
 · exact .inl h
 · exact .inr ⟨h,f,s,h1,h2,h3.keep hb⟩
theorem ErrV.alloc {z:Int} {B:Nat} {v:Value} {w:World} (h:ErrV z B v w) (o:Obj):ErrV z B v (w.alloc o):=h.keep ((Below.refl _ _).alloc (Nat.le_refl _) _)
theorem wrong_any (s:ByteArray) (z:Int) (w:World):Calls Tryz.prog 74 #[.string s,.int .i64 z] w fun e w' => (∃ v,e = .returned v ∧ ErrV z w.heap.size v w') ∧ Below w.heap.size w w':=by
 by_cases h0:z = 0
 · subst h0
   go_enter Tryz.func74,Tryz.ntmps74
   go_wp2_with fail
   go_ret
   exact ⟨⟨_,rfl,.inl ⟨rfl,rfl⟩⟩,Below.refl _ _⟩
 · go_enter Tryz.func74,Tryz.ntmps74
   go_wp2_with fail
   go_ret
   exact ⟨⟨_,rfl,.inr ⟨h0,_,s,Nat.le_refl _,rfl,Bk.new _ _ _⟩⟩,(Below.refl _ _).alloc (Nat.le_refl _) _⟩
theorem number_any (z:Int) (B:Nat) (v:Value) (w:World) (h:ErrV z B v w) (hT:ErrT w):Calls Tryz.prog 42 #[v] w fun e w' => e = .returned (.int .i64 z) ∧ Below w.heap.size w w':=by
 rcases h with ⟨rfl,rfl⟩ | ⟨h0,f,s,_,rfl,hF⟩
 · have an:=fun t W => as_nil t W
   have HAn:=hide an
   clear an
   go_enter Tryz.func42,Tryz.ntmps42
   go_wp2_with (go_at_call 76;refine (Calls.mono (HAn.out _ _) ?_);rintro e w1 ⟨rfl,rfl⟩)
   refine bodyPost_ret (v:=.int .i64 0) (by simp [results,Tryz.results42,go_sem]) rfl ?_
   exact ⟨rfl,(Below.refl _ _).alloc (Nat.le_refl _) _⟩
 · have hb:Bk (w.alloc (.cells #[.int .i64 0] 29)) w.heap.size 29 #[.int .i64 0]:=Bk.new _ _ _
   have ah:=as_fault f ⟨w.heap.size,0,none⟩ s z (.int .i64 0) (w.alloc (.cells #[.int .i64 0] 29)) (hT.alloc _) (hF.alloc _) (hb.cell 0) (hb.free 0)
   have HAh:=hide ah
   have hbe:∀ W',(∃ a b c d,W' = (((((w.alloc (.cells #[.int .i64 0] 29)).alloc a).alloc b).alloc c).alloc d).setCell ⟨w.heap.size,0,none⟩ (.int .i64 z)) → Below w.heap.size w W' ∧ W'.cell? ⟨w.heap.size,0,none⟩ = some (.int .i64 z):=by
    rintro W' ⟨a,b,c,d,rfl⟩
    exact ⟨((((((Below.refl _ w).alloc (Nat.le_refl _) _).alloc (by simp) _).alloc (by simp;omega) _).alloc (by simp;omega) _).alloc (by simp;omega) _).setCell (p:=⟨w.heap.size,0,none⟩) (Nat.le_refl _) _,((((((hb.alloc a).alloc b).alloc c).alloc d).set_ 0 (.int .i64 z)).cell 0).trans rfl⟩
   have HBe:=hide hbe
   clear hb ah hbe hT hF
   go_enter Tryz.func42,Tryz.ntmps42
   go_wp2_with (go_at_call 76;refine (Calls.mono HAh.out ?_);rintro e w1 ⟨rfl,hw1⟩;have hh:=HBe.out w1 ⟨_,_,_,_,hw1⟩;obtain ⟨hb1,hc1⟩:=hh;have HB1:=hide hb1;clear hb1 hw1)
   refine bodyPost_ret (v:=.int .i64 z) (by simp [results,Tryz.results42,go_sem]) rfl ?_
   exact ⟨rfl,HB1.out⟩
end Go.Proofs.YtcfnjpokfodmoaaGreatDoor
