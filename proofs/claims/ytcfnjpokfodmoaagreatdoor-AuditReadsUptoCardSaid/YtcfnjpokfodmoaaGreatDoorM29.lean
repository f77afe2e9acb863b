/- Lemmas for the row: OrdE. -/
import Derived.Test.YtcfnjpokfodmoaaGreatDoorM28
import Derived.Test.YtcfnjpokfodmoaaGreatDoorShelf
set_option maxRecDepth 100000
set_option linter.unusedVariables false
namespace Go.Proofs.YtcfnjpokfodmoaaGreatDoor
open Go.RowKit Go.Sort
def Hi (w:World) (g:Nat) (l:List Nat):Prop:=∀ i x,l[i]? = some x → w.cell? ⟨g,i,none⟩ = some (.int .i64 (x:Nat)) ∧ w.frozen? ⟨g,i,none⟩ = false
theorem fr_sortE {α:Type} [Inhabited α] (enc:α → Value) (w:World) (n g o:Nat) (d:Array α) (os:Array Obj):Fr (fun x => x = g) w (sortWorld enc w g o n d os):=by
 unfold sortWorld
 refine ⟨rfl,rfl,rfl, ?_,fun k hk hne => ?_⟩
 · simp [grow]
 · unfold grow
   simp only
   rw [Array.getElem?_append_left (by simpa using hk)]
   unfold putRow mapBlock
   simp only [Array.getElem?_modify,heap_ahead]
   rw [if_neg (fun e => hne e.symm)]
theorem swoD (n k:Nat) (rank:List Nat):SWO (ltOf fun (x y:{x:Nat // x < n}) => cmpD rank k x.1 y.1):=by
 have e:∀ x y:{x:Nat // x < n},ltOf (fun (x y:{x:Nat // x < n}) => cmpD rank k x.1 y.1) x y = lessD rank k x.1 y.1:=fun x y => rfl
 refine ⟨fun x => ?_,fun x y z h1 h2 => ?_,fun x y z h1 h2 => ?_⟩
 · rw [e,Bool.eq_false_iff,Ne,lessD_iff];omega
 · rw [e,lessD_iff] at *;omega
 · rw [e,Bool.eq_false_iff,Ne,lessD_iff] at *;omega
theorem sortD_any (gR gK gB b c n k be ce:Nat) (rank es:List Nat) (w:World) (hC:CapD w gR gK b n c rank k) (hB:w.cell? ⟨gB,0,none⟩ = some (.func (.func 119) #[] #[.pointer (some ⟨gK,0,none⟩),.pointer (some ⟨gR,0,none⟩)])) (hrl:rank.length = n) (hl:n ≤ 1000000) (hk:k ≤ 1000000000) (hr:∀ a,a < n → rank.getD a 0 < n) (h1:1 ≤ n) (hes:∀ x ∈ es,x < n) (hel:es.length = n) (hE:Hi w be es) (hbe:be < w.heap.size) (n1:gR ≠ be) (n2:gK ≠ be) (n3:gB ≠ be) (n4:b ≠ be) :
 Calls Tryz.prog 123 #[.slice (some ⟨be,0,none⟩) n ce,.func (.func 120) #[] #[.pointer (some ⟨gR,0,none⟩),.pointer (some ⟨gB,0,none⟩)]] w fun e w' => e = .returned (.tuple #[]) ∧
  (∃ es':List Nat,es'.Perm es ∧ (∀ i j,i < j → j < n → lessD rank k (es'.getD j 0) (es'.getD i 0) = false) ∧ Hi w' be es') ∧ Fr (fun x => x = be) w w':=by
 letI:Inhabited {x:Nat // x < n}:=⟨⟨0,h1⟩⟩
 obtain ⟨L,hL⟩:∃ L:List {x:Nat // x < n},L = es.pmap Subtype.mk hes:=⟨_,rfl⟩
 have hLm:L.map Subtype.val = es:=by rw [hL,List.map_pmap];simp
 have hLl:L.length = n:=by have:=congrArg List.length hLm;rw [List.length_map] at this;omega
 have hget:∀ (M:List {x:Nat // x < n}) (i:Nat),i < M.length → (M.toArray[i]!).1 = (M.map Subtype.val).getD i 0:=by
  intro M i hi
  rw [getElem!_pos _ i (by simpa using hi),List.getD_eq_getElem?_getD,List.getElem?_map,List.getElem?_eq_getElem hi]
  simp
 obtain ⟨enc,henc⟩:∃ enc:{x:Nat // x < n} → Value,∀ x,enc x = .int .i64 (x.1:Nat):=⟨fun x => .int .i64 (x.1:Nat),fun _ => rfl⟩
 have hH:Holds enc w be 0 L.toArray:=by
  intro j hj
  have hj2:j < L.length:=by simpa using hj
  have:=hE j (es.getD j 0) (by rw [List.getD_eq_getElem?_getD,List.getElem?_eq_getElem (by omega:j < es.length)];rfl)
  rw [henc,hget L j hj2,hLm,Nat.zero_add]
  exact this
 have eg:∀ args w,(callFunc 120 args).run Tryz.prog w = .ok (.enter 120 args) w:=enters_of Tryz.func120 (by kernel_rfl) rfl
 have hcmp:CmpLays1 Tryz.prog 120 #[.pointer (some ⟨gR,0,none⟩),.pointer (some ⟨gB,0,none⟩)] enc (fun x y => cmpD rank k x.1 y.1) be 0 L.toArray.size w:=by
  intro m os dk hdk x y
  have hf:=fr_sortE enc w m be 0 dk os
  rw [henc,henc]
  exact lessD_any gR gK gB b n c rank k x.1 y.1 _ ⟨hf.cell (p:=⟨gR,0,none⟩) n1 hC.r,hf.cell (p:=⟨gK,0,none⟩) n2 hC.k,fun i hi => hf.cell (p:=⟨b,i,none⟩) n4 (hC.rows i hi)⟩ (hf.cell (p:=⟨gB,0,none⟩) n3 hB) hrl hl hk x.2 y.2 hr
 have:=Tryz.slices_SortFunc enc (fun x => by rw [henc];rfl) (fun x y => cmpD rank k x.1 y.1) (swoD n k rank) 120 #[.pointer (some ⟨gR,0,none⟩),.pointer (some ⟨gB,0,none⟩)] be 0 ce L.toArray w eg hcmp hH hbe (by simp;omega)
 rw [show L.toArray.size = n by simp [hLl]] at this
 refine this.mono ?_
 rintro e w' ⟨rfl,d',q,os,⟨p1,_,p3⟩,p4,rfl⟩
 have p1':d'.size = n:=by rw [p1];simp [hLl]
 have e1:d'.extract 0 n = d':=by have:=Array.extract_size (xs:=d');rwa [p1'] at this
 have e2:L.toArray.extract 0 n = L.toArray:=by have:=Array.extract_size (xs:=L.toArray);rwa [show L.toArray.size = n by simp [hLl]] at this
 rw [e1,e2] at p3
 have hg2:∀ i,i < n → (d'[i]!).1 = (d'.toList.map Subtype.val).getD i 0:=by
  intro i hi
  have:=hget d'.toList i (by rw [Array.length_toList];omega)
  rwa [Array.toArray_toList] at this
 refine ⟨rfl,⟨d'.toList.map Subtype.val, ?_, ?_, ?_⟩,fr_sortE _ _ _ _ _ _ _⟩
 · have:=p3.map Subtype.val
   rwa [hLm] at this
 · intro i j hij hj
   rw [← hg2 j hj,← hg2 i (by omega)]
   exact p4 i j (Nat.zero_le _) hij hj
 · have hh:=holds_sortWorld enc w be 0 q L.toArray d' os hbe hH p1
   intro i x hx
   have hi:i < n:=by have:=(List.getElem?_eq_some_iff.1 hx).1;simpa [p1'] using this
   have:=hh i (by omega)
   rw [henc,hg2 i hi,List.getD_eq_getElem?_getD,hx,Nat.zero_add] at this
   exact this
end Go.Proofs.YtcfnjpokfodmoaaGreatDoor
