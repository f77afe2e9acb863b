/- Lemmas for the row: SrtK. -/
import Derived.Test.YtcfnjpokfodmoaaGreatDoorM01
import Derived.Test.YtcfnjpokfodmoaaGreatDoorM25
set_option maxRecDepth 100000
set_option linter.unusedVariables false
namespace Go.Proofs.YtcfnjpokfodmoaaGreatDoor
open Go.RowKit Go.Sort
theorem bn_callees:Callees13 where
 ins:=bn_insertionSort
 brk:=bn_breakPatterns
 piv:=bn_choosePivot
 par:=bn_partialInsertionSort
 peq:=bn_partitionEqualOrdered
 prt:=bn_partitionOrdered
theorem bn_plain:Plain13 where
 swo:=swo_ltInt
 ins:=insertionSort_holds
 par:=partialInsertionSort_holds
 prt:=partition_holds _
 peq:=partitionEqual_holds _
 pdq:=pdq_sorts _
theorem bn_pdqWalk:pdqWalk_int:=fun blk off cap a b limit d w hH hb hab hbd hsz hl hB =>
 bn_pdqsort bn_callees bn_plain (b - a + 1) blk off cap a b limit d w (by omega) hH hb hab hbd hsz hl hB
theorem fr_sort (w:World) (n g o:Nat) (d:Array Int) (os:Array Obj):Fr (fun x => x = g) w (grow (putRow (Value.int .u8) (Sort.ahead w n) g o d) os):=by
 refine ⟨rfl,rfl,rfl, ?_,fun k hk hne => ?_⟩
 · simp [grow]
 · unfold grow
   simp only
   rw [Array.getElem?_append_left (by simpa using hk)]
   unfold putRow mapBlock
   simp only [Array.getElem?_modify,heap_ahead]
   rw [if_neg (fun e => hne e.symm)]
theorem sortB_any (g o c:Nat) (l:List Nat) (w:World) (h:∀ i x,l[i]? = some x → w.cell? ⟨g,o + i,none⟩ = some (.int .u8 (x:Nat)) ∧ w.frozen? ⟨g,o + i,none⟩ = false) (hg:g < w.heap.size) (hl:l.length ≤ 1000000000) :
 Calls Tryz.prog 82 #[.slice (some ⟨g,o,none⟩) l.length c] w fun e w' => e = .returned (.tuple #[]) ∧
  (∃ l':List Nat,l'.Perm l ∧ l'.Pairwise (fun a b => a ≤ b) ∧ ∀ i x,l'[i]? = some x → w'.cell? ⟨g,o + i,none⟩ = some (.int .u8 (x:Nat)) ∧ w'.frozen? ⟨g,o + i,none⟩ = false) ∧ Fr (fun x => x = g) w w':=by
 obtain ⟨d,hd⟩:∃ d:Array Int,d = (l.map fun (x:Nat) => (x:Int)).toArray:=⟨_,rfl⟩
 have hs:d.size = l.length:=by rw [hd];simp
 have hget:∀ (i x:Nat),l[i]? = some x → d[i]! = (x:Int):=by
  intro i x hx
  have hi:i < l.length:=(List.getElem?_eq_some_iff.1 hx).1
  rw [hd,getElem!_pos _ i (by simpa using hi)]
  have:l[i] = x:=(List.getElem?_eq_some_iff.1 hx).2
  simp [this]
 have hH:Holds (Value.int .u8) w g o d:=by
  intro j hj
  have hx:l[j]? = some l[j]:=List.getElem?_eq_getElem (by omega)
  rw [hget j _ hx]
  exact h j _ hx
 have hc:=bn_Sort bn_pdqWalk g o c d w hH hg (by omega)
 rw [hs] at hc
 refine hc.mono ?_
 rintro e w' ⟨rfl,n,os,rfl⟩
 obtain ⟨⟨p1,_,p3⟩,p4⟩:=sort_sorts ltInt swo_ltInt d
 obtain ⟨S,hS⟩:∃ S,S = Sort.sort ltInt d:=⟨_,rfl⟩
 rw [← hS] at p1 p3 p4 ⊢
 have e1:S.extract 0 d.size = S:=by rw [← p1];simp
 have e2:d.extract 0 d.size = d:=by simp
 rw [e1,e2] at p3
 have hdl:d.toList = l.map fun (x:Nat) => (x:Int):=by rw [hd]
 have hmem:∀ x ∈ S.toList,∃ y:Nat,x = (y:Int):=by
  intro x hx
  have:=p3.mem_iff.1 hx
  rw [hdl] at this
  obtain ⟨y,_,rfl⟩:=List.mem_map.1 this
  exact ⟨y,rfl⟩
 have hback:(S.toList.map Int.toNat).map (fun (x:Nat) => (x:Int)) = S.toList:=by
  rw [List.map_map]
  conv => rhs;rw [← List.map_id S.toList]
  apply List.map_congr_left
  intro x hx
  obtain ⟨y,rfl⟩:=hmem x hx
  rfl
 have hhold:=holds_grow (Value.int .u8) (putRow (Value.int .u8) (Sort.ahead w n) g o S) os g o S (by simpa using hg) (holds_putRow _ _ _ _ d S (holds_ahead _ _ n _ _ _ hH) p1)
 refine ⟨rfl,⟨S.toList.map Int.toNat, ?_, ?_, ?_⟩,fr_sort w n g o S os⟩
 · have:=p3.map Int.toNat
   rw [hdl,List.map_map] at this
   have e3:l.map (Int.toNat ∘ fun (x:Nat) => (x:Int)) = l:=by
    conv => rhs;rw [← List.map_id l]
    exact List.map_congr_left fun x _ => rfl
   rwa [e3] at this
 · rw [List.pairwise_map,List.pairwise_iff_getElem]
   intro i j hi hj hij
   simp only [Array.length_toList] at hi hj
   have:=p4 i j (Nat.zero_le _) hij (by omega)
   rw [getElem!_pos _ j hj,getElem!_pos _ i hi] at this
   simp only [Array.getElem_toList]
   unfold ltInt at this
   simp at this
   omega
 · intro i x hx
   rw [List.getElem?_map] at hx
   cases hx2:S.toList[i]? with
   | none => rw [hx2] at hx;cases hx
   | some y =>
     rw [hx2] at hx
     have hi:i < S.size:=by have:=(List.getElem?_eq_some_iff.1 hx2).1;simpa using this
     obtain ⟨z,rfl⟩:=hmem y (List.mem_of_getElem? hx2)
     have hy:S[i]! = (z:Int):=by
      rw [getElem!_pos _ i hi]
      have:=(List.getElem?_eq_some_iff.1 hx2).2
      simpa using this
     simp at hx
     subst hx
     have:=hhold i hi
     rw [hy] at this
     exact this
end Go.Proofs.YtcfnjpokfodmoaaGreatDoor
