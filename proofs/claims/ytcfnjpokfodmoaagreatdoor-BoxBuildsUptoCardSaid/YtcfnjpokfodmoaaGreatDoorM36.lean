/- Lemmas for the row: LawHead. -/
import Derived.Test.YtcfnjpokfodmoaaGreatDoorM07
import Derived.Test.YtcfnjpokfodmoaaGreatDoorM35
import Derived.Deep.DeepHandedRow
import Derived.Deep.DeepWitnessRowRef
set_option maxRecDepth 100000
set_option linter.unusedVariables false
namespace Go.Proofs.YtcfnjpokfodmoaaGreatDoor
open Go.ChangeShapes Go.WideShapes Go.ChangeAt Go.RowKit Go.Joins Go.Deep
theorem five_of {α:Type} {cs:Array α} (h:cs.size = 5):∃ c0 c1 c2 c3 c4,cs = #[c0,c1,c2,c3,c4]:=by
 obtain ⟨l⟩:=cs
 match l,h with
 | [c0,c1,c2,c3,c4],_ => exact ⟨c0,c1,c2,c3,c4,rfl⟩
theorem wf_u32 {x:Int} (h:(Lit.int .u32 x).wf = true):0 ≤ x ∧ x < 4294967296:=by
 have:=h
 simp [Lit.wf,IntKind.min,IntKind.max,IntKind.signed,IntKind.bits] at this
 omega
theorem five_list {α:Type} {l:List α} (h:l.length = 5):∃ c0 c1 c2 c3 c4,l = [c0,c1,c2,c3,c4]:=by
 match l,h with
 | [c0,c1,c2,c3,c4],_ => exact ⟨c0,c1,c2,c3,c4,rfl⟩
theorem open_ints5 {H:Type} {enc:TypeId × Value → H} {P:Program} {W:World} {base:Nat} {sp:Nat → Bool} {held:Bool} {r:Reach} {b0:Nat} {t:TypeId} {f0 f1 f2 f3 f4:Field} {k0 k1 k2 k3 k4:IntKind} {v:Value} {d:DataW H} {p:List MemPlace}
 (hs:P.underlying t = some (.struct #[f0,f1,f2,f3,f4])) (hone:oneCellFields P #[f0,f1,f2,f3,f4] = true) (hC:P.cellsOf t = 5)
 (t0:P.underlying f0.type = some (.int k0)) (t1:P.underlying f1.type = some (.int k1)) (t2:P.underlying f2.type = some (.int k2)) (t3:P.underlying f3.type = some (.int k3)) (t4:P.underlying f4.type = some (.int k4))
 (hv:Value.okWide P W r b0 t v) (h:DataW.Trod enc P W base sp held t v d p) :
 ∃ n0 n1 n2 n3 n4:Int,v = .agg #[.int k0 n0,.int k1 n1,.int k2 n2,.int k3 n3,.int k4 n4] ∧ (Lit.int k0 n0).wf = true ∧ (Lit.int k1 n1).wf = true ∧ (Lit.int k2 n2).wf = true ∧ (Lit.int k3 n3).wf = true ∧ (Lit.int k4 n4).wf = true:=by
 obtain ⟨cs,rfl,hsz⟩:=okWide_struct hs hv
 obtain ⟨c0,c1,c2,c3,c4,rfl⟩:=five_of (hsz.trans hC)
 obtain ⟨fuel,hf⟩:=h
 obtain ⟨xs,n,_,_,_,hlen,hx⟩:=DataW.trod_struct hs hf
 obtain ⟨y0,y1,y2,y3,y4,rfl⟩:=five_list (hlen.trans rfl)
 obtain ⟨o0,e0⟩:=hone_of hone 0 f0 rfl
 obtain ⟨o1,e1⟩:=hone_of hone 1 f1 rfl
 obtain ⟨o2,e2⟩:=hone_of hone 2 f2 rfl
 obtain ⟨o3,e3⟩:=hone_of hone 3 f3 rfl
 obtain ⟨o4,e4⟩:=hone_of hone 4 f4 rfl
 have h0:DataW.trod enc P W base sp held n f0.type [c0] = some y0:=by simpa [Value.cells,o0,e0] using hx 0 f0 rfl
 have h1:DataW.trod enc P W base sp held n f1.type [c1] = some y1:=by simpa [Value.cells,o1,e1] using hx 1 f1 rfl
 have h2:DataW.trod enc P W base sp held n f2.type [c2] = some y2:=by simpa [Value.cells,o2,e2] using hx 2 f2 rfl
 have h3:DataW.trod enc P W base sp held n f3.type [c3] = some y3:=by simpa [Value.cells,o3,e3] using hx 3 f3 rfl
 have h4:DataW.trod enc P W base sp held n f4.type [c4] = some y4:=by simpa [Value.cells,o4,e4] using hx 4 f4 rfl
 obtain ⟨n0,q0,_,w0⟩:=DataW.trod_int t0 h0
 obtain ⟨n1,q1,_,w1⟩:=DataW.trod_int t1 h1
 obtain ⟨n2,q2,_,w2⟩:=DataW.trod_int t2 h2
 obtain ⟨n3,q3,_,w3⟩:=DataW.trod_int t3 h3
 obtain ⟨n4,q4,_,w4⟩:=DataW.trod_int t4 h4
 simp only [List.cons.injEq,and_true] at q0 q1 q2 q3 q4
 subst q0 q1 q2 q3 q4
 exact ⟨n0,n1,n2,n3,n4,rfl,w0,w1,w2,w3,w4⟩
theorem open_head {H:Type} {enc:TypeId × Value → H} {W:World} {base:Nat} {sp:Nat → Bool} {held:Bool} {r:Reach} {b0:Nat} {v:Value} {d:DataW H} {p:List MemPlace} (hv:Value.okWide Tryz.prog W r b0 25 v) (h:DataW.Trod enc Tryz.prog W base sp held 25 v d p) :
 ∃ h:Hd,v = headV h ∧ h.sum < 4294967296:=by
 obtain ⟨n0,n1,n2,n3,n4,rfl,w0,w1,w2,w3,w4⟩:=open_ints5 Tryz.underlying25 (by kernel_rfl) (by kernel_rfl) Tryz.underlying22 Tryz.underlying22 Tryz.underlying23 Tryz.underlying22 Tryz.underlying22 hv h
 obtain ⟨a0,rfl⟩:=Int.eq_ofNat_of_zero_le (wf_u64 w0).1
 obtain ⟨a1,rfl⟩:=Int.eq_ofNat_of_zero_le (wf_u64 w1).1
 obtain ⟨u1,u2⟩:=wf_u32 w2
 obtain ⟨a2,rfl⟩:=Int.eq_ofNat_of_zero_le u1
 obtain ⟨a3,rfl⟩:=Int.eq_ofNat_of_zero_le (wf_u64 w3).1
 obtain ⟨a4,rfl⟩:=Int.eq_ofNat_of_zero_le (wf_u64 w4).1
 exact ⟨⟨a0,a1,a2,a3,a4⟩,rfl,by show a2 < _;omega⟩
theorem open_bstrD {H:Type} {enc:TypeId × Value → H} {W:World} {base:Nat} {sp:Nat → Bool} {held:Bool} {r:Reach} {b0:Nat} {v:Value} {d:DataW H} {p:List MemPlace} (hv:Value.okWide Tryz.prog W r b0 27 v) (h:DataW.Trod enc Tryz.prog W base sp held 27 v d p) :
 ∃ (s:ByteArray) (n:Int) (y:DataW H),v = .agg #[.string s,.int .i64 n] ∧ d = .agg [.lit (.string s.data.toList),y] ∧ I64 n:=by
 obtain ⟨c0,c1,y0,y1,m,rfl,rfl,rfl,hy0,hy1⟩:=open_agg2 Tryz.underlying27 (by kernel_rfl) (by kernel_rfl) hv h
 obtain ⟨s,e0,rfl,ws⟩:=DataW.trod_string Tryz.underlying9 hy0
 obtain ⟨n,e1,rfl,wn⟩:=DataW.trod_int Tryz.underlying3 hy1
 simp at e0 e1
 subst e0 e1
 exact ⟨s,n,_,rfl,rfl,wf_i64 wn⟩
section
variable {H:Type}
theorem bulk_part {d:DataW H} {l:List (DataW H)} (h:d ∈ l):Rows.uptoBulk d ≤ Rows.uptoBulkAll l:=by
 induction l with
 | nil => cases h
 | cons x r ih =>
   rw [Rows.uptoBulkAll]
   rcases List.mem_cons.1 h with rfl | h
   · omega
   · have:=ih h;omega
theorem bulk_str {s:ByteArray} {l:List (DataW H)} (hk:Rows.uptoSmall H l = true) (h:DataW.lit (.string s.data.toList) ∈ l):s.size ≤ 1048576:=by
 have h1:Rows.uptoBulkAll l ≤ 1048576:=of_decide_eq_true hk
 have h2:=bulk_part h
 rw [Rows.uptoBulk] at h2
 have h3:s.data.toList.length = s.size:=by rw [Array.length_toList];rfl
 omega
theorem bulk_bstr {s:ByteArray} {y:DataW H} {l:List (DataW H)} (hk:Rows.uptoSmall H l = true) (h:DataW.agg [.lit (.string s.data.toList),y] ∈ l):s.size ≤ 1048576:=by
 have h1:Rows.uptoBulkAll l ≤ 1048576:=of_decide_eq_true hk
 have h2:=bulk_part h
 rw [Rows.uptoBulk,Rows.uptoBulkAll,Rows.uptoBulk] at h2
 have h3:s.data.toList.length = s.size:=by rw [Array.length_toList];rfl
 omega
end
end Go.Proofs.YtcfnjpokfodmoaaGreatDoor
