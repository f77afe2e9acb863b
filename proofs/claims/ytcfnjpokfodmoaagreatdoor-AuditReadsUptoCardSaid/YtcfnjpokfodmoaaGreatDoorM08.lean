/- Lemmas for the row: Mtf, MtfB, MtfC. -/
import Derived.Test.YtcfnjpokfodmoaaGreatDoorM01
import Derived.BigRegion
import Derived.Laws.IdiomCopy
import Derived.Lib.Bytealg
import Derived.Lib.BytesEntry
set_option maxRecDepth 100000
set_option linter.unusedVariables false
namespace Go.Proofs.YtcfnjpokfodmoaaGreatDoor
open Go.RowKit
theorem indexByte_idx {l:List Nat} (hl:∀ x ∈ l,x < 256) {c:Nat} (hc:c < 256) (hm:c ∈ l):Lib.indexByte (Lib.bytesOf (l.map fun (x:Nat) => (x:Int))) (UInt8.ofNat c) = (idxL l c:Nat):=by
 induction l with
 | nil => simp at hm
 | cons b l ih =>
   have hb:=hl b (by simp)
   show Lib.indexByte (UInt8.ofNat ((b:Int).toNat) :: Lib.bytesOf (l.map fun (x:Nat) => (x:Int))) (UInt8.ofNat c) = ((List.findIdx (fun x => x == c) (b :: l):Nat):Int)
   rw [Lib.indexByte,Int.toNat_natCast,List.findIdx_cons]
   have hbc:(UInt8.ofNat b == UInt8.ofNat c) = (b == c):=by
    rw [Bool.eq_iff_iff]
    simp only [beq_iff_eq]
    constructor
    · intro h
      have:=congrArg UInt8.toNat h
      simpa [UInt8.toNat_ofNat',Nat.mod_eq_of_lt hb,Nat.mod_eq_of_lt hc] using this
    · intro e
      rw [e]
   rw [hbc]
   by_cases h:b = c
   · subst h;simp
   · have hm':c ∈ l:=by
      rcases List.mem_cons.1 hm with rfl | hm
      · exact absurd rfl h
      · exact hm
     have ih:=ih (fun x hx => hl x (List.mem_cons_of_mem _ hx)) hm'
     have hf:(b == c) = false:=by simpa using h
     rw [hf,ih]
     have hne:(((idxL l c:Nat):Int) == -1) = false:=by
      rw [beq_eq_false_iff_ne]
      omega
     rw [hne]
     simp [idxL]
set_option maxHeartbeats 1000000 in
theorem bytesIndex_any (b o n cap:Nat) (l:List Nat) (c:Nat) (w:World) (hn:l.length = n) (hl:∀ x ∈ l,x < 256) (hc:c < 256) (hm:c ∈ l) (h:∀ i x,l[i]? = some x → w.cell? ⟨b,o + i,none⟩ = some (.int .u8 (x:Nat))) :
 Calls Tryz.prog 210 #[.slice (some ⟨b,o,none⟩) n cap,.int .u8 c] w fun e w' => e = .returned (.int .i64 (idxL l c:Nat)) ∧ w' = w:=by
 have hx:=indexByte_idx hl hc hm
 go_enter Tryz.func210,Tryz.ntmps210
 go_wp2
 rw [run_callFunc_extern Tryz.func252 (by kernel_rfl) (by kernel_rfl) (by kernel_rfl) (e:=Extern.BytealgIndexByte.indexByte) (by kernel_rfl),Lib.run_indexByteSlice w b o n cap (l.map fun (x:Nat) => (x:Int)) (by rw [List.length_map];exact hn) (fun i hi => by
  have hi':i < l.length:=by omega
  rw [List.getD_eq_getElem?_getD,List.getElem?_map,List.getElem?_eq_getElem hi']
  exact h i _ (List.getElem?_eq_getElem hi')) (c:Int)]
 simp only [Result.andThen]
 rw [Oper.upon_value]
 go_wp2
 go_ret
 refine ⟨ret_int ?_,rfl⟩
 rw [← hx]
theorem Bk.setCells {g:Nat} {t:TypeId}:∀ (cs:List Value) {w:World} {xs:List Value} (o:Nat),Bk w g t xs.toArray → o + cs.length ≤ xs.length → Bk (w.setCells g o cs) g t (xs.take o ++ cs ++ xs.drop (o + cs.length)).toArray:=by
 intro cs
 induction cs with
 | nil =>
   intro w xs o h _
   rw [List.append_nil,List.length_nil,Nat.add_zero,List.take_append_drop];exact h
 | cons v r ih =>
   intro w xs o h hl
   rw [List.length_cons] at hl
   have h1:=h.set_ o v
   rw [List.setIfInBounds_toArray] at h1
   have h2:=ih (o + 1) h1 (by rw [List.length_set];omega)
   have e:(xs.set o v).take (o + 1) ++ r ++ (xs.set o v).drop (o + 1 + r.length) = xs.take o ++ v :: r ++ xs.drop (o + (v :: r).length):=by
    have ho:o < xs.length:=by omega
    rw [List.take_add_one,List.take_set_of_le (Nat.le_refl o),List.getElem?_set_self ho,List.drop_set_of_lt (by omega),List.length_cons,show o + 1 + r.length = o + (r.length + 1) by omega]
    simp
   rw [e] at h2
   exact h2
theorem Fr.setCells {S:Nat → Prop} {g:Nat} (hg:S g):∀ (cs:List Value) {a w:World} (o:Nat),Fr S a w → Fr S a (w.setCells g o cs):=by
 intro cs
 induction cs with
 | nil => intro a w o h;exact h
 | cons v r ih => intro a w o h;exact ih (o + 1) (h.setCell (p:=⟨g,o,none⟩) (.inl hg) v)
theorem step_copy_cells {P:Program} {ops:Array Oper} {o:Oper} {a:Act} {w:World} {K:Act → World → Prop} {Q:Exit → Act → World → Prop} {E:Prop} (hgd:o.guard = none) (d s:Operand) (dT sT:TypeId)
 (ho:o.op = .call { callee:=.builtin .copy,args:=#[d,s],argTypes:=#[dT,sT] }) (elem:TypeId) (hu:P.underlying dT = some (.slice elem)) (hsz:(P.info? elem).map (·.size) = some 1)
 (b off dLen dCap:Nat) (ad:Addr) (sLen sCap:Nat) (hd:a.eval d = .slice (some ⟨b,off,none⟩) dLen dCap) (hs:a.eval s = .slice (some ad) sLen sCap) (cs:List Value) (hn:cs.length = Nat.min sLen dLen)
 (hsrc:∀ j v,cs[j]? = some v → w.cell? (ad.add j) = some v) (hc:∀ j,j < cs.length → (w.cell? ⟨b,off + j,none⟩).isSome = true) (hf:∀ j,j < cs.length → w.frozen? ⟨b,off + j,none⟩ = false) (h1:∀ v ∈ cs,v.oneCell' = true)
 (h:K (a.put o.dst (goInt cs.length)) (w.setCells b off cs)) :
 if Region.wanted o (yielded ops a.tmps) = true then Oper.wp P o a w K Q else E:=by
 have hw:Region.wanted o (yielded ops a.tmps) = true:=by simp [Region.wanted,hgd]
 rw [if_pos hw]
 have hrun:=run_copy_cells (P:=P) w dT sT o.type elem b off dLen dCap ad sLen sCap cs hu hsz hn hsrc hc hf h1
 unfold Oper.wp
 simp [execOp,ho,resolve,invoke,builtin,hd,hs,hrun,Result.andThen]
 exact h
theorem size_u8:(Tryz.prog.info? 5).map (·.size) = some 1:=by kernel_rfl
set_option maxHeartbeats 1000000 in
theorem lift_any (p i:Nat) (t:TypeId) (row:List Nat) (w:World) (hr:row.length = 256) (hi:i < 256) (h:Bk w p t (vby row).toArray) :
 Calls Tryz.prog 138 #[.pointer (some ⟨p,0,none⟩),.int .i64 i] w fun e w' => e = .returned (.int .u8 (row.getD i 0:Nat)) ∧ Bk w' p t (vby (liftL row i)).toArray ∧ Fr (fun g => g = p) w w':=by
 obtain ⟨c,hc⟩:∃ c,c = row.getD i 0:=⟨_,rfl⟩
 have hrc:row[i]? = some c:=by rw [hc,List.getD_eq_getElem?_getD,List.getElem?_eq_getElem (by omega)];rfl
 have cell:=fun j x (hx:row[j]? = some x) => (show w.cell? ⟨p,j,none⟩ = some (.int .u8 (x:Nat)) by rw [h.cell j,List.getElem?_toArray];unfold vby;rw [List.getElem?_map,hx];rfl)
 have c0:=cell i c hrc
 have HC:=hide cell
 have HB:=hide h
 have hi1:(i:Int) < 256:=by omega
 have hi2:(i:Int) ≤ 256:=by omega
 have hi3:i ≤ 256:=by omega
 have hi4:(0:Int) ≤ (i:Int):=by omega
 have hplt:=h.lt
 rw [← hc]
 have HCc:=hide hc
 have hcs:((vby (row.take i))).length = Nat.min i 255:=by rw [vby_length,List.length_take];show min i row.length = min i 255;omega
 have HCs:=hide hcs
 have hvl:(vby row).length = 256:=by rw [vby_length,hr]
 have HSrc:=hide (show ∀ j v,(vby (row.take i))[j]? = some v → w.drew.cell? ((⟨p,0,none⟩:Addr).add j) = some v from fun j v hj => by
  rw [Addr.add_lit,Nat.zero_add]
  refine (h.drew.cell j).trans ?_
  rw [List.getElem?_toArray]
  unfold vby at hj ⊢
  rw [List.getElem?_map] at hj ⊢
  have hjl:j < i:=by
   rcases Nat.lt_or_ge j i with g | g
   · exact g
   · rw [List.getElem?_eq_none (by rw [List.length_take];omega)] at hj;cases hj
  rwa [List.getElem?_take_of_lt hjl] at hj)
 have HDst:=hide (show ∀ j,j < (vby (row.take i)).length → (w.drew.cell? ⟨p,1 + j,none⟩).isSome = true from fun j hj => by
  rw [vby_length,List.length_take] at hj
  rw [h.drew.cell (1 + j),List.getElem?_toArray,List.getElem?_eq_getElem (by rw [hvl];omega)];rfl)
 have HFz:=hide (show ∀ j,j < (vby (row.take i)).length → w.drew.frozen? ⟨p,1 + j,none⟩ = false from fun j _ => h.drew.free (1 + j))
 have HOne:=hide (show ∀ v ∈ vby (row.take i),v.oneCell' = true from fun v hv => by
  obtain ⟨x,_,rfl⟩:=List.mem_map.1 hv
  rfl)
 have HFit:=hide (show 1 + (vby (row.take i)).length ≤ (vby row).length by rw [hvl,vby_length,List.length_take];omega)
 clear hc hrc cell h hcs hvl
 go_enter Tryz.func138,Tryz.ntmps138
 go_wp2_with fail
 go_region_law (
  refine step_copy_cells (P:=Tryz.prog) rfl (.tmp 13) (.tmp 17) 38 38 rfl 5 Tryz.underlying38 size_u8 p 1 255 255 ⟨p,0,none⟩ i 256 ?_ ?_ (vby (row.take i)) ?_ ?_ ?_ ?_ ?_ ?_
  · rfl
  · rfl
  · exact HCs.out
  · exact HSrc.out
  · exact HDst.out
  · exact HFz.out
  · exact HOne.out
  have hB5:=HB.out.drew.setCells (vby (row.take i)) 1 HFit.out
  have hF5:=Fr.setCells (S:=fun g => g = p) rfl (vby (row.take i)) 1 (Fr.refl (fun g => g = p) w).drew
  obtain ⟨W5,hW5⟩:∃ W5,W5 = w.drew.setCells p 1 (vby (row.take i)):=⟨_,rfl⟩
  rw [← hW5] at hB5 hF5 ⊢
  obtain ⟨v5,x5⟩:∃ v,W5.cell? ⟨p,0,none⟩ = some v:=⟨_,(hB5.cell 0).trans (by rw [List.getElem?_toArray,List.append_assoc,List.getElem?_append_left (by rw [List.length_take,vby_length];omega),List.getElem?_take_of_lt (by decide),List.getElem?_eq_getElem (by rw [vby_length];omega)])⟩
  have f5:=hB5.free 0
  have HB5:=hide hB5
  have HF5:=hide hF5
  clear hB5 hF5 hW5)
 go_wp2_with fail
 go_ret
 refine ⟨rfl, ?_,HF5.out.setCell (.inl rfl) _⟩
 have e:=HB5.out.set_ 0 (.int .u8 (c:Nat))
 rw [List.setIfInBounds_toArray] at e
 have e2:((vby row).take 1 ++ vby (row.take i) ++ (vby row).drop (1 + (vby (row.take i)).length)).set 0 (.int .u8 (c:Nat)) = vby (liftL row i):=by
  unfold liftL
  rw [← HCc.out,vby_length,List.length_take,Nat.min_eq_left (by omega)]
  unfold vby
  rw [List.map_cons,List.map_append,List.map_drop,Nat.add_comm 1]
  cases row with
  | nil => simp at hr
  | cons x r => simp
 rw [e2] at e
 exact e
set_option maxHeartbeats 1000000 in
theorem to_any (p c:Nat) (t:TypeId) (row:List Nat) (w:World) (hr:RowOK row) (hc:c < 256) (h:Bk w p t (vby row).toArray) :
 Calls Tryz.prog 145 #[.pointer (some ⟨p,0,none⟩),.int .u8 c] w fun e w' => e = .returned (.int .u8 (idxL row c:Nat)) ∧ Bk w' p t (vby (liftL row (idxL row c))).toArray ∧ Fr (fun g => g = p) w w':=by
 have hi:=idxL_lt hr hc
 have ix:=bytesIndex_any p 0 256 256 row c w hr.len hr.lt hc (hr.has c hc) (fun i x hx => by
  rw [Nat.zero_add,h.cell i,List.getElem?_toArray];unfold vby;rw [List.getElem?_map,hx];rfl)
 have lf:=lift_any p (idxL row c) t row w hr.len hi h
 obtain ⟨i,hie⟩:∃ i,i = idxL row c:=⟨_,rfl⟩
 rw [← hie] at ix lf hi ⊢
 have HX:=hide ix
 have HL:=hide lf
 clear ix lf hie h
 go_enter Tryz.func145,Tryz.ntmps145
 go_wp2_with (first | (go_at_call 210;refine (Calls.mono HX.out ?_);rintro e w1 ⟨rfl,hww⟩;replace hww:=hww.symm;subst hww) | (go_at_call 138;refine (Calls.mono HL.out ?_);rintro e w2 ⟨rfl,hk,hf⟩;have HK:=hide hk;have HF:=hide hf;clear hk hf))
 go_ret
 exact ⟨ret_int (by omega),HK.out,HF.out⟩
set_option maxHeartbeats 1000000 in
theorem from_any (p i:Nat) (t:TypeId) (row:List Nat) (w:World) (hr:RowOK row) (hi:i < 256) (h:Bk w p t (vby row).toArray) :
 Calls Tryz.prog 92 #[.pointer (some ⟨p,0,none⟩),.int .u8 i] w fun e w' => e = .returned (.int .u8 (row.getD i 0:Nat)) ∧ Bk w' p t (vby (liftL row i)).toArray ∧ Fr (fun g => g = p) w w':=by
 have lf:=lift_any p i t row w hr.len hi h
 have HL:=hide lf
 clear lf h
 go_enter Tryz.func92,Tryz.ntmps92
 go_wp2_with (first | (go_at_call 138;refine (Calls.mono HL.out ?_);rintro e w2 ⟨rfl,hk,hf⟩;have HK:=hide hk;have HF:=hide hf;clear hk hf))
 go_ret
 exact ⟨rfl,HK.out,HF.out⟩
theorem fresh_take (k:Nat) (h:k < 256):((freshL.take k) ++ List.replicate (256 - k) 0).set k k = freshL.take (k + 1) ++ List.replicate (256 - (k + 1)) 0:=by
 have hl:(freshL.take k).length = k:=by simp [freshL];omega
 have hs:freshL[k]? = some k:=by unfold freshL;rw [List.getElem?_range h]
 rw [List.set_append,if_neg (by omega),hl,Nat.sub_self,show 256 - k = (256 - (k + 1)) + 1 by omega,List.replicate_succ,List.set_cons_zero,List.take_add_one,hs]
 simp
theorem zero_row:Tryz.zeroCells79 = (vby (freshL.take 0 ++ List.replicate (256 - 0) 0)).toArray:=by kernel_rfl
theorem results_cell {fn:Func} {p:Tmp} {ty:TypeId} (h:fn.results = #[.cell p ty]) (tmps:Array Value) (P:Program) (w:World) {g:Nat} {v:Value} (hp:tmps.getD p undef = .pointer (some ⟨g,0,none⟩)) (hv:(loadVar ty ⟨g,0,none⟩).run P w = .ok v w) :
 (results fn tmps).run P w = .ok v w:=by
 simp only [results,h]
 simp [Sem.run_bind,Result.andThen]
 rw [show (tmps[p]?.getD undef) = .pointer (some ⟨g,0,none⟩) by simpa [Array.getD_eq_getD_getElem?] using hp]
 simp [asAddr,hv]
set_option maxHeartbeats 1000000 in
theorem new_any (w:World):Calls Tryz.prog 48 #[] w fun e w' => e = .returned (.agg (vby freshL).toArray) ∧ Below w.heap.size w w':=by
 go_enter Tryz.func48,Tryz.ntmps48
 go_wp2_with fail
 go_loopw [3] (fun i wr => ∃ k:Nat,k ≤ 256 ∧ i = .int .i64 k ∧ Hid (Bk wr w.heap.size 79 Tryz.zeroCells79) ∧ Hid (Bk wr (w.heap.size + 1) 79 (vby (freshL.take k ++ List.replicate (256 - k) 0)).toArray) ∧ Below w.heap.size w wr) (fun i _ => 256 - (intOf i).toNat)
 case atStart => exact ⟨0,by omega,rfl,hide ((Bk.new w 79 _).alloc _),hide (by rw [← zero_row];exact Bk.new1 w _ _ _),((Below.refl _ _).alloc (Nat.le_refl _) _).alloc (by simp) _⟩
 case round =>
  obtain ⟨k,hk,rfl,h0,h1,hbe⟩:=hrel
  by_cases hlt:k < 256
  · have hlen:(vby (freshL.take k ++ List.replicate (256 - k) 0)).length = 256:=by rw [vby_length];simp [freshL];omega
    obtain ⟨v,hv⟩:∃ v,wr.cell? ⟨w.heap.size + 1,k,none⟩ = some v:=⟨_,(h1.out.cell k).trans (by rw [List.getElem?_toArray,List.getElem?_eq_getElem (by omega)])⟩
    have hfz:=h1.out.free k
    clear hlen
    go_wp2_with fail
    go_roundw
    case rel =>
     refine ⟨k + 1,by omega,by go_num,hide (h0.out.far (by simp) _),hide ?_,hbe.setCell (by simp) _⟩
     have:=h1.out.set_ k (.int .u8 (k:Nat))
     rw [List.setIfInBounds_toArray] at this
     have e:(vby (freshL.take k ++ List.replicate (256 - k) 0)).set k (.int .u8 (k:Nat)) = vby (freshL.take (k + 1) ++ List.replicate (256 - (k + 1)) 0):=by
      rw [← fresh_take k hlt]
      unfold vby
      rw [List.map_set]
     rw [e] at this
     exact this
    case measure => simp [intOf];omega
  · obtain rfl:k = 256:=by omega
    go_wp2_with fail
    have hfull:vby (freshL.take 256 ++ List.replicate (256 - 256) 0) = vby freshL:=by
     rw [Nat.sub_self,List.replicate_zero,List.append_nil,List.take_of_length_le (by simp [freshL])]
    rw [hfull] at h1
    have hsz:(vby freshL).toArray.size = 256:=by simp [vby_length,freshL]
    have hz0:(Tryz.zeroCells79).size = 256:=by kernel_rfl
    have hall:(vby freshL).toArray.all (·.oneCell') = true:=by rw [Array.all_eq_true_iff_forall_mem];intro v hv;obtain ⟨x,_,rfl⟩:=List.mem_map.1 (show v ∈ vby freshL by simpa using hv);rfl
    have HSz:=hide hsz
    have HZ0:=hide hz0
    have HAll:=hide hall
    clear hfull hsz hz0 hall
    refine wp_load_row 79 (.tmp 1) rfl (w.heap.size + 1) rfl 79 (vby freshL).toArray (0,0) _ h1.out Tryz.underlying79 rfl (by rw [HSz.out];kernel_rfl) ?_
    have hvl:(vby freshL).length = 256:=by simp [vby_length,freshL]
    have hst:Sem.run Tryz.prog (storeCells ⟨w.heap.size,0,none⟩ (vby freshL)) wr = .ok () (wr.setCells w.heap.size 0 (vby freshL)) :=
     run_storeCells_cells w.heap.size 0 (vby freshL) 0 wr (fun j hj => by have:=h0.out.cell j;rw [show (0:Nat) + 0 + j = j by omega,this,Array.getElem?_eq_getElem (by rw [HZ0.out];omega)];rfl) (fun j _ => h0.out.free _) (fun v hv => by obtain ⟨x,_,rfl⟩:=List.mem_map.1 hv;rfl)
    have hB:Bk (wr.setCells w.heap.size 0 (vby freshL)) w.heap.size 79 (vby freshL).toArray:=by
     have hb0:Bk wr w.heap.size 79 (Tryz.zeroCells79).toList.toArray:=by rw [Array.toArray_toList];exact h0.out
     have hzl:(Tryz.zeroCells79).toList.length = 256:=by rw [Array.length_toList,HZ0.out]
     have:=hb0.setCells (vby freshL) 0 (by omega)
     rw [List.take_zero,List.nil_append,List.drop_eq_nil_of_le (by omega),List.append_nil] at this
     exact this
    have hF:=Fr.setCells (S:=fun g => g = w.heap.size) rfl (vby freshL) 0 (Fr.refl (fun g => g = w.heap.size) wr)
    have hbe2:Below w.heap.size w (wr.setCells w.heap.size 0 (vby freshL)):=hbe.trans (hF.toBelowB (fun g hg => by subst hg;exact Nat.le_refl _) hbe.size)
    obtain ⟨W,hW⟩:∃ W,W = wr.setCells w.heap.size 0 (vby freshL):=⟨_,rfl⟩
    rw [← hW] at hst hB hbe2
    have HB:=hide hB
    clear hvl hB hW hF
    go_wp2_with fail
    refine bodyPost_ret (v:=.agg (vby freshL).toArray) (results_cell (g:=w.heap.size) Tryz.results48 _ _ _ rfl (run_loadVar_row (P:=Tryz.prog) W w.heap.size 79 79 (vby freshL).toArray (0,0) _ HB.out Tryz.underlying79 rfl (by rw [HSz.out];kernel_rfl))) rfl ⟨rfl,hbe2⟩
end Go.Proofs.YtcfnjpokfodmoaaGreatDoor
