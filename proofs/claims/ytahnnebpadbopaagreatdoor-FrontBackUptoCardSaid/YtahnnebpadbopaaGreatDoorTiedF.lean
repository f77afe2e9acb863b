/- The thirteen laid variables of the rows of chapter 32: what a world that meets them gives the walks; the witness. -/
import Derived.Test.YtahnnebpadbopaaGreatDoorM22
import Derived.Test.YtahnnebpadbopaaGreatDoorLawBase
import Derived.Lib.LaidTab
import Derived.Lay
import Derived.Shelf.Vars
import Derived.Stop.LaidTwo
import Derived.Stop.Joined
import Derived.LaidLaws
import Derived.LaidHandle
namespace Go.Proofs.YtahnnebpadbopaaGreatDoor
open Go.ChangeShapes Go.WideShapes Go.RowKit

theorem gType : Tryz.prog.globalNamed "errors.errorType" = some 0 := by kernel_rfl
theorem gRange : Tryz.prog.globalNamed "strconv.ErrRange" = some 6 := by kernel_rfl
theorem gSyntax : Tryz.prog.globalNamed "strconv.ErrSyntax" = some 5 := by kernel_rfl
theorem gRangeType : (Tryz.prog.globals[6]?).map (·.type) = some 43 := by kernel_rfl
theorem gSyntaxType : (Tryz.prog.globals[5]?).map (·.type) = some 43 := by kernel_rfl
theorem gVerbs : Tryz.prog.globalNamed "wringer/front.verbs" = some 1 := by kernel_rfl
theorem gVerbsType : (Tryz.prog.globals[1]?).map (·.type) = some 134 := by kernel_rfl
theorem gPow : Tryz.prog.globalNamed "internal/strconv.uint64pow10" = some 3 := by kernel_rfl
theorem gPowType : (Tryz.prog.globals[3]?).map (·.type) = some 211 := by kernel_rfl
theorem cellsErr : Tryz.prog.cellsOf 378 = 1 := by kernel_rfl
theorem cellsStr : Tryz.prog.cellsOf 9 = 1 := by kernel_rfl
theorem starErr : "*" ++ "errors.errorString" = "*errors.errorString" := by decide
theorem rowErr (u : TypeId) (h : Tryz.prog.typeName? 3 u = some "*errors.errorString") : u = 376 :=
  typeName_ptr_named (nm := "errors.errorString") (by rw [starErr]; kernel_rfl) (by kernel_rfl) (by decide) u (by rw [starErr]; exact h)
theorem rtT : (Tryz.prog.cutTypes.find? (·.1 == "internal/reflectlite.rtype")).map (·.2) = some 120 := by kernel_rfl
theorem oneRow : ((List.range Tryz.prog.types.size).filter fun t => Tryz.prog.rowNamed t [101, 114, 114, 111, 114]) = [43] := by kernel_rfl
/-- What the rows list. -/
def laidE : List (String × DataW Unit) := [("errors.errorType", Rows.laid_errors_errorType)]
def laidF : List (String × DataW Unit) := [("wringer/front.verbs", Rows.laid_wringer_front_verbs), ("strconv.ErrSyntax", Rows.laid_strconv_ErrSyntax), ("strconv.ErrRange", Rows.laid_strconv_ErrRange), ("internal/strconv.uint64pow10", Rows.laid_internal_strconv_uint64pow10), ("math/bits.deBruijn32tab", Rows.laid_math_bits_deBruijn32tab), ("math/bits.deBruijn64tab", Rows.laid_math_bits_deBruijn64tab), ("unicode/utf8.first", Rows.laid_unicode_utf8_first), ("unicode/utf8.acceptRanges", Rows.laid_unicode_utf8_acceptRanges), ("errors.errorType", Rows.laid_errors_errorType), ("wringer/press.errEnd", Rows.laid_wringer_press_errEnd), ("wringer/merge.errOrder", Rows.laid_wringer_merge_errOrder), ("wringer/table.errShort", Rows.laid_wringer_table_errShort), ("wringer/table.errCode", Rows.laid_wringer_table_errCode)]
/-- Without the type's handle. -/
def laidG : List (String × DataW Unit) := [("wringer/front.verbs", Rows.laid_wringer_front_verbs), ("strconv.ErrSyntax", Rows.laid_strconv_ErrSyntax), ("strconv.ErrRange", Rows.laid_strconv_ErrRange), ("internal/strconv.uint64pow10", Rows.laid_internal_strconv_uint64pow10), ("math/bits.deBruijn32tab", Rows.laid_math_bits_deBruijn32tab), ("math/bits.deBruijn64tab", Rows.laid_math_bits_deBruijn64tab), ("unicode/utf8.first", Rows.laid_unicode_utf8_first), ("unicode/utf8.acceptRanges", Rows.laid_unicode_utf8_acceptRanges), ("wringer/press.errEnd", Rows.laid_wringer_press_errEnd), ("wringer/merge.errOrder", Rows.laid_wringer_merge_errOrder), ("wringer/table.errShort", Rows.laid_wringer_table_errShort), ("wringer/table.errCode", Rows.laid_wringer_table_errCode)]
theorem filterG : (laidF.filter fun x => x.2.handleName?.isNone) = laidG := by kernel_rfl
theorem filterE : (laidF.filter fun x => x.2.handleName?.isSome) = laidE := by kernel_rfl
theorem pow10_eq : Rows.laid_internal_strconv_uint64pow10 (H := Unit) = Lib.tabData .u64 Lib.pow10Tab := by kernel_rfl
def verbData : DataW Unit := .agg (((List.range 11).map verbB).map fun s => .lit (.string s))
theorem verbs_eq : Rows.laid_wringer_front_verbs (H := Unit) = verbData := by kernel_rfl
theorem strs_of_head {P : Program} {W : World} {name : String} {ss : List (List UInt8)} {rest : List (String × DataW Unit)} {g : Nat} {t e : TypeId} {n : Nat}
    (hg : P.globalNamed name = some g) (hty : (P.globals[g]?).map (·.type) = some t) (ht : P.underlying t = some (.array n e)) (he : P.underlying e = some .string) (hce : P.cellsOf e = 1)
    (h : laidMet P ((name, .agg (ss.map fun s => .lit (.string s))) :: rest) W) : ∀ (i : Nat) (s : List UInt8), i < n → ss[i]? = some s → W.cell? ⟨g, i, none⟩ = some (.string (blB s)) := by
  obtain ⟨ps, ⟨g', t', cs, fuel, p, q, hg', ht', hvar, hd, _, _⟩, _⟩ := h
  obtain rfl := Option.some.inj (hg.symm.trans hg')
  obtain rfl := Option.some.inj (hty.symm.trans ht')
  obtain ⟨xs, m, _, hx, _, hxl, hf⟩ := DataW.trod_array ht hd
  intro i s hi hs
  have e1 : (ss.map fun s => (DataW.lit (.string s) : DataW Unit)) = xs.map (·.1) := by
    have := congrArg Prod.fst hx
    simpa using this
  have e2 : (xs.map (·.1))[i]? = some (DataW.lit (.string s) : DataW Unit) := by rw [← e1, List.getElem?_map, hs]; rfl
  rw [List.getElem?_map] at e2
  obtain ⟨y, hy, hy1⟩ := Option.map_eq_some_iff.1 e2
  have h1 := hf i hi
  rw [hy] at h1
  obtain ⟨sa, hc, rfl, _⟩ := DataW.trod_string he h1
  have hs2 : sa.data.toList = s := by simpa using hy1
  have h2 : cs[i]? = some (.string sa) := by
    have := congrArg (·[0]?) hc
    simpa [hce, List.getElem?_take, List.getElem?_drop] using this
  have h3 := World.var?_cell hg hvar i
  rw [h3, h2, ← hs2]
  rfl
theorem parts_of_laid {W : World} (h : laidMetH Tryz.prog laidF W) : laidMet Tryz.prog laidG W ∧ handlesMet Tryz.prog laidE W := by
  have h' := h
  unfold laidMetH at h'
  rw [filterG, filterE] at h'
  exact h'
theorem errT_of_handles {W : World} (h : handlesMet Tryz.prog laidE W) : W.cell? ⟨0, 0, none⟩ = some (.iface 120 (.agg #[.pointer (some ⟨14, 43, none⟩)])) := by
  obtain ⟨name, u, ty, e1, e2, e3, e4, e5⟩ := h _ (List.mem_singleton.2 rfl)
  have en : name = [101, 114, 114, 111, 114] := (Option.some.inj e1).symm
  subst en
  obtain rfl := Option.some.inj (rtT.symm.trans e2)
  have hm : ty ∈ (List.range Tryz.prog.types.size).filter fun t => Tryz.prog.rowNamed t [101, 114, 114, 111, 114] := List.mem_filter.2 ⟨List.mem_range.2 e3, e4⟩
  rw [oneRow] at hm
  obtain rfl := List.mem_singleton.1 hm
  have hh : typeHandle Tryz.prog 43 = .pointer (some ⟨14, 43, none⟩) := by kernel_rfl
  rw [hh] at e5
  simpa using World.var?_cell gType e5 0
theorem sizeG : Tryz.prog.globals.size = 14 := by kernel_rfl
theorem moreG : decide (14 < (begin Tryz.prog (fun _ _ => 0) default).world.heap.size) = true := by kernel_rfl
theorem size_of_shaped {W : World} (h : W.ShapedOpen Tryz.prog) : 14 ≤ W.heap.size := by
  obtain ⟨o, o0, h1, _⟩ := h.2 14 (by rw [sizeG]; exact Nat.le_refl _) (of_decide_eq_true moreG)
  exact Nat.le_of_lt (Array.getElem?_eq_some_iff.1 h1).1
theorem max_of_shaped {W : World} (h : W.ShapedOpen Tryz.prog) : ∃ m, W.cell? ⟨2, 0, none⟩ = some (.int .i64 m) :=
  cell_of_shapedOpen_int (t := 3) (zero := #[.int .i64 0]) h (by rw [sizeG]; decide) (by kernel_rfl) rfl (by kernel_rfl) (by kernel_rfl) Tryz.underlying3
theorem laidF_gives {W : World} (h : laidMetH Tryz.prog laidF W) (hs : W.ShapedOpen Tryz.prog) : Lay W := by
  obtain ⟨hd, he⟩ := parts_of_laid h
  have h1 := hd.tail
  have h3 := h1.tail.tail
  obtain ⟨a0, a1, s0, s1, c0, c1, t0, t1, hv0, hv1, _⟩ := laid_sentinels2 h1 gSyntax gSyntaxType gRange gRangeType Tryz.underlying43 rowErr Tryz.underlying376 Tryz.underlying378 rfl rfl Tryz.underlying9 cellsErr cellsStr
  refine ⟨?_, ?_, ⟨_, _, hv0⟩, ⟨_, _, hv1⟩, max_of_shaped hs, errT_of_handles he, size_of_shaped hs⟩
  · have h0' : laidMet Tryz.prog (("wringer/front.verbs", verbData) :: laidG.drop 1) W := by rw [← verbs_eq]; exact hd
    intro k hk
    exact strs_of_head gVerbs gVerbsType Tryz.underlying134 Tryz.underlying9 cellsStr h0' k (verbB k) hk (by simp [hk])
  · have h3' : laidMet Tryz.prog (("internal/strconv.uint64pow10", Lib.tabData .u64 Lib.pow10Tab) :: laidG.drop 4) W := by rw [← pow10_eq]; exact h3
    exact Lib.tabIs_of_head gPow gPowType Tryz.underlying211 Tryz.underlying144 (by kernel_rfl) (by kernel_rfl) h3'
noncomputable def baseF (os : Os) : World :=
  let w0 := World.holding Tryz.prog os ⟨#[], #[], []⟩
  { w0 with heap := w0.heap.modify 0 fun
      | .cells _ t frozen => .cells #[.iface 120 (.agg #[.pointer (some ⟨14, 43, none⟩)])] t frozen
      | o => o }
noncomputable def laidWorldF (os : Os) : World := (baseF os).layVars Tryz.prog laidG
set_option maxRecDepth 100000 in
theorem fitsF (os : Os) : (baseF os).layFits Tryz.prog laidG [] = true := by kernel_rfl
set_option maxRecDepth 100000 in
theorem ifacesF (os : Os) : (baseF os).layIfaces Tryz.prog laidG (laidWorldF os) = true := by kernel_rfl
set_option maxRecDepth 100000 in
theorem handlesF (os : Os) (args : Array Value) : (laidF.filter fun x => x.2.handleName?.isSome).all (handleAtB Tryz.prog ((laidWorldF os).forCall (fun _ _ => 0) ⟨#[], args, []⟩).memory) = true := by kernel_rfl
theorem laidWorldF_met (os : Os) (args : Array Value) : laidMetH Tryz.prog laidF ((laidWorldF os).forCall (fun _ _ => 0) ⟨#[], args, []⟩).memory := by
  refine laidMetH_of_parts ?_ (handlesF os args)
  rw [filterG]
  have e1 : (laidG.filter fun x => (laidG.map (·.1)).contains x.1) = laidG := List.filter_eq_self.2 fun x hx => List.contains_iff_mem.2 (List.mem_map.2 ⟨x, hx, rfl⟩)
  have e2 : (laidG.filter fun x => !(laidG.map (·.1)).contains x.1) = [] := List.filter_eq_nil_iff.2 fun x hx => by rw [List.contains_iff_mem.2 (List.mem_map.2 ⟨x, hx, rfl⟩)]; simp
  have h : laidMet Tryz.prog laidG (laidWorldF os) := laidMet_layVars (w0 := baseF os) (laidG.map (·.1)) [] (by rw [e1]; rfl) (by rw [e1]; exact fitsF os) (by rw [e1]; exact ifacesF os) (by rw [e2]; exact LaidIn.none)
  exact h.of_heap (by simp [World.memory, World.forCall, Input.heap])
theorem laidWorldF_os (os : Os) : (laidWorldF os).os = os := (World.layVars_os _ _ _).trans rfl
#print axioms laidF_gives
#print axioms laidWorldF_met
end Go.Proofs.YtahnnebpadbopaaGreatDoor
