/- Lemmas for the row: TiedB. -/
import Derived.Test.YtcfnjpokfodmoaaGreatDoorM02
import Derived.Test.YtcfnjpokfodmoaaGreatDoorM05
import Derived.Test.YtcfnjpokfodmoaaGreatDoorM06
import Derived.LaidHandle
import Derived.LaidLaws
import Derived.Stop.Joined
import Derived.Stop.LaidTwo
set_option maxRecDepth 100000
set_option linter.unusedVariables false
namespace Go.Proofs.YtcfnjpokfodmoaaGreatDoor
open Go.ChangeShapes Go.WideShapes Go.RowKit
theorem gType:Tryz.prog.globalNamed "errors.errorType" = some 0:=by kernel_rfl
theorem gShort:Tryz.prog.globalNamed "wringer/table.errShort" = some 1:=by kernel_rfl
theorem gCode:Tryz.prog.globalNamed "wringer/table.errCode" = some 2:=by kernel_rfl
theorem gShortType:(Tryz.prog.globals[1]?).map (·.type) = some 64:=by kernel_rfl
theorem gCodeType:(Tryz.prog.globals[2]?).map (·.type) = some 64:=by kernel_rfl
theorem cellsErr:Tryz.prog.cellsOf 348 = 1:=by kernel_rfl
theorem cellsStr:Tryz.prog.cellsOf 9 = 1:=by kernel_rfl
theorem starErr: "*" ++ "errors.errorString" = "*errors.errorString":=by decide
theorem rowErr (u:TypeId) (h:Tryz.prog.typeName? 3 u = some "*errors.errorString"):u = 346 :=
 typeName_ptr_named (nm:= "errors.errorString") (by rw [starErr];kernel_rfl) (by kernel_rfl) (by decide) u (by rw [starErr];exact h)
theorem rtT:(Tryz.prog.cutTypes.find? (·.1 == "internal/reflectlite.rtype")).map (·.2) = some 240:=by kernel_rfl
theorem oneRow:((List.range Tryz.prog.types.size).filter fun t => Tryz.prog.rowNamed t [101,114,114,111,114]) = [64]:=by kernel_rfl
def laidS:List (String × DataW Unit):=[("wringer/table.errShort",Rows.laid_wringer_table_errShort),("wringer/table.errCode",Rows.laid_wringer_table_errCode)]
def laidE:List (String × DataW Unit):=[("errors.errorType",Rows.laid_errors_errorType)]
def laidB:List (String × DataW Unit):=[("errors.errorType",Rows.laid_errors_errorType),("wringer/table.errShort",Rows.laid_wringer_table_errShort),("wringer/table.errCode",Rows.laid_wringer_table_errCode)]
theorem sent2_of_laid {W:World} (h:laidMetH Tryz.prog laidB W):(∃ q0 q1,Sent2 W q0 q1) ∧ ErrT W:=by
 have h':laidMet Tryz.prog laidS W ∧ handlesMet Tryz.prog laidE W:=h
 refine ⟨?_, ?_⟩
 · obtain ⟨a0,a1,s0,s1,c0,c1,t0,t1,hv0,hv1,hc0,hs0,hz0,hc1,hs1,hz1,hne,hb0,hb1⟩:=laid_sentinels2 h'.1 gShort gShortType gCode gCodeType Tryz.underlying64 rowErr Tryz.underlying346 Tryz.underlying348 rfl rfl Tryz.underlying9 cellsErr cellsStr
   exact ⟨a0,a1,⟨by simpa using World.var?_cell gShort hv0 0,by simpa using World.var?_cell gCode hv1 0⟩,hne,⟨c0,t0,hb0⟩,⟨c1,t1,hb1⟩⟩
 · obtain ⟨name,u,ty,e1,e2,e3,e4,e5⟩:=h'.2 _ (List.mem_singleton.2 rfl)
   have en:name = [101,114,114,111,114]:=(Option.some.inj e1).symm
   subst en
   obtain rfl:=Option.some.inj (rtT.symm.trans e2)
   have hm:ty ∈ (List.range Tryz.prog.types.size).filter fun t => Tryz.prog.rowNamed t [101,114,114,111,114]:=List.mem_filter.2 ⟨List.mem_range.2 e3,e4⟩
   rw [oneRow] at hm
   obtain rfl:=List.mem_singleton.1 hm
   have hh:typeHandle Tryz.prog 64 = .pointer (some ⟨11,64,none⟩):=by kernel_rfl
   rw [hh] at e5
   unfold ErrT
   simpa using World.var?_cell gType e5 0
abbrev shortS:ByteArray:={ data:=#[116,104,101,32,98,105,116,115,32,101,110,100] }
abbrev codeS:ByteArray:={ data:=#[110,111,32,116,97,98,108,101] }
noncomputable def lowT:Nat:=(World.holding Tryz.prog default ⟨#[],#[],[]⟩).heap.size
noncomputable def laidWorldT (os:Os):World :=
 let w0:=World.holding Tryz.prog os ⟨#[.cells #[.string shortS] 348,.cells #[.string codeS] 348],#[],[]⟩
 { w0 with heap:=((w0.heap.modify 0 fun
  | .cells _ t frozen => .cells #[.iface 240 (.agg #[.pointer (some ⟨11,64,none⟩)])] t frozen
  | o => o).modify 1 fun
  | .cells _ t frozen => .cells #[.iface 346 (.pointer (some ⟨lowT,0,none⟩))] t frozen
  | o => o).modify 2 fun
  | .cells _ t frozen => .cells #[.iface 346 (.pointer (some ⟨lowT + 1,0,none⟩))] t frozen
  | o => o }
theorem laidWorldT_met (os:Os) (args:Array Value):laidMetH Tryz.prog laidB ((laidWorldT os).forCall (fun _ _ => 0) ⟨#[],args,[]⟩).memory :=
 laidMetH_of_parts (laidMet_of_run (ps:=[.cell 1 0,.cell lowT 0,.cell 2 0,.cell (lowT + 1) 0]) 8 (by kernel_rfl) (by kernel_rfl) (by kernel_rfl)) (by kernel_rfl)
end Go.Proofs.YtcfnjpokfodmoaaGreatDoor
