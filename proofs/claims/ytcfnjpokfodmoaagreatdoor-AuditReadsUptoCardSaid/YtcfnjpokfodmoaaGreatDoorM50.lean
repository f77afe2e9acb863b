/- Lemmas for the row: TiedC. -/
import Derived.Test.YtcfnjpokfodmoaaGreatDoorM40
import Derived.Test.YtcfnjpokfodmoaaGreatDoorM48
import Derived.Lay
import Derived.Lib.LaidTab
set_option maxRecDepth 100000
set_option linter.unusedVariables false
namespace Go.Proofs.YtcfnjpokfodmoaaGreatDoor
open Go.ChangeShapes Go.WideShapes Go.RowKit
def laidC:List (String × DataW Unit):=[("math/bits.deBruijn32tab",Rows.laid_math_bits_deBruijn32tab),("math/bits.deBruijn64tab",Rows.laid_math_bits_deBruijn64tab),("internal/strconv.uint64pow10",Rows.laid_internal_strconv_uint64pow10),("unicode/utf8.acceptRanges",Rows.laid_unicode_utf8_acceptRanges),("errors.errorType",Rows.laid_errors_errorType),("strconv.ErrRange",Rows.laid_strconv_ErrRange),("strconv.ErrSyntax",Rows.laid_strconv_ErrSyntax),("wringer/table.errShort",Rows.laid_wringer_table_errShort),("wringer/table.errCode",Rows.laid_wringer_table_errCode),("unicode/utf8.first",Rows.laid_unicode_utf8_first)]
def laidD:List (String × DataW Unit):=[("math/bits.deBruijn32tab",Rows.laid_math_bits_deBruijn32tab),("math/bits.deBruijn64tab",Rows.laid_math_bits_deBruijn64tab),("internal/strconv.uint64pow10",Rows.laid_internal_strconv_uint64pow10),("unicode/utf8.acceptRanges",Rows.laid_unicode_utf8_acceptRanges),("strconv.ErrRange",Rows.laid_strconv_ErrRange),("strconv.ErrSyntax",Rows.laid_strconv_ErrSyntax),("wringer/table.errShort",Rows.laid_wringer_table_errShort),("wringer/table.errCode",Rows.laid_wringer_table_errCode),("unicode/utf8.first",Rows.laid_unicode_utf8_first)]
theorem filterC:(laidC.filter fun x => x.2.handleName?.isNone) = laidD:=by kernel_rfl
theorem filterE:(laidC.filter fun x => x.2.handleName?.isSome) = laidE:=by kernel_rfl
theorem pow10_eq:Rows.laid_internal_strconv_uint64pow10 (H:=Unit) = Lib.tabData .u64 Lib.pow10Tab:=by kernel_rfl
theorem gPow:Tryz.prog.globalNamed "internal/strconv.uint64pow10" = some 4:=by kernel_rfl
theorem gPowType:(Tryz.prog.globals[4]?).map (·.type) = some 328:=by kernel_rfl
theorem parts_of_laid {W:World} (h:laidMetH Tryz.prog laidC W):laidMet Tryz.prog laidD W ∧ handlesMet Tryz.prog laidE W:=by
 have h':=h
 unfold laidMetH at h'
 rw [filterC,filterE] at h'
 exact h'
theorem errT_of_handles {W:World} (h:handlesMet Tryz.prog laidE W):ErrT W:=by
 obtain ⟨name,u,ty,e1,e2,e3,e4,e5⟩:=h _ (List.mem_singleton.2 rfl)
 have en:name = [101,114,114,111,114]:=(Option.some.inj e1).symm
 subst en
 obtain rfl:=Option.some.inj (rtT.symm.trans e2)
 have hm:ty ∈ (List.range Tryz.prog.types.size).filter fun t => Tryz.prog.rowNamed t [101,114,114,111,114]:=List.mem_filter.2 ⟨List.mem_range.2 e3,e4⟩
 rw [oneRow] at hm
 obtain rfl:=List.mem_singleton.1 hm
 have hh:typeHandle Tryz.prog 64 = .pointer (some ⟨11,64,none⟩):=by kernel_rfl
 rw [hh] at e5
 unfold ErrT
 simpa using World.var?_cell gType e5 0
theorem laidC_gives {W:World} (h:laidMetH Tryz.prog laidC W):(∃ q0 q1,Sent2 W q0 q1) ∧ ErrT W ∧ Pow10 W:=by
 obtain ⟨hd,he⟩:=parts_of_laid h
 have h2:=hd.tail.tail
 have h6:=h2.tail.tail.tail.tail
 refine ⟨?_, ?_, ?_⟩
 · obtain ⟨a0,a1,s0,s1,c0,c1,t0,t1,hv0,hv1,hc0,hs0,hz0,hc1,hs1,hz1,hne,hb0,hb1⟩:=laid_sentinels2 h6 gShort gShortType gCode gCodeType Tryz.underlying64 rowErr Tryz.underlying346 Tryz.underlying348 rfl rfl Tryz.underlying9 cellsErr cellsStr
   exact ⟨a0,a1,⟨by simpa using World.var?_cell gShort hv0 0,by simpa using World.var?_cell gCode hv1 0⟩,hne,⟨c0,t0,hb0⟩,⟨c1,t1,hb1⟩⟩
 · exact errT_of_handles he
 · have h2':laidMet Tryz.prog (("internal/strconv.uint64pow10",Lib.tabData .u64 Lib.pow10Tab) :: laidD.drop 3) W:=by rw [← pow10_eq];exact h2
   exact Lib.tabIs_of_head gPow gPowType Tryz.underlying328 Tryz.underlying22 (by kernel_rfl) (by kernel_rfl) h2'
noncomputable def baseC (os:Os):World :=
 let w0:=World.holding Tryz.prog os ⟨#[],#[],[]⟩
 { w0 with heap:=w0.heap.modify 0 fun
  | .cells _ t frozen => .cells #[.iface 240 (.agg #[.pointer (some ⟨11,64,none⟩)])] t frozen
  | o => o }
noncomputable def laidWorldC (os:Os):World:=(baseC os).layVars Tryz.prog laidD
theorem fitsC (os:Os):(baseC os).layFits Tryz.prog laidD [] = true:=by kernel_rfl
theorem ifacesC (os:Os):(baseC os).layIfaces Tryz.prog laidD (laidWorldC os) = true:=by kernel_rfl
theorem handlesC (os:Os) (args:Array Value):(laidC.filter fun x => x.2.handleName?.isSome).all (handleAtB Tryz.prog ((laidWorldC os).forCall (fun _ _ => 0) ⟨#[],args,[]⟩).memory) = true:=by kernel_rfl
theorem laidWorldC_met (os:Os) (args:Array Value):laidMetH Tryz.prog laidC ((laidWorldC os).forCall (fun _ _ => 0) ⟨#[],args,[]⟩).memory:=by
 refine laidMetH_of_parts ?_ (handlesC os args)
 rw [filterC]
 have e1:(laidD.filter fun x => (laidD.map (·.1)).contains x.1) = laidD:=List.filter_eq_self.2 fun x hx => List.contains_iff_mem.2 (List.mem_map.2 ⟨x,hx,rfl⟩)
 have e2:(laidD.filter fun x => !(laidD.map (·.1)).contains x.1) = []:=List.filter_eq_nil_iff.2 fun x hx => by rw [List.contains_iff_mem.2 (List.mem_map.2 ⟨x,hx,rfl⟩)];simp
 have h:laidMet Tryz.prog laidD (laidWorldC os):=laidMet_layVars (w0:=baseC os) (laidD.map (·.1)) [] (by rw [e1];rfl) (by rw [e1];exact fitsC os) (by rw [e1];exact ifacesC os) (by rw [e2];exact LaidIn.none)
 exact h.of_heap (by simp [World.memory,World.forCall,Input.heap])
theorem laidWorldC_os (os:Os):(laidWorldC os).os = os:=(World.layVars_os _ _ _).trans rfl
end Go.Proofs.YtcfnjpokfodmoaaGreatDoor
