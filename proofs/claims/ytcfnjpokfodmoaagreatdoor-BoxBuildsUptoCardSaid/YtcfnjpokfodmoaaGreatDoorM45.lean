/- Lemmas for the row: DocMtf, DocMove, DocSeg, DocEnc. -/
import Derived.Test.YtcfnjpokfodmoaaGreatDoorM04
import Derived.Test.YtcfnjpokfodmoaaGreatDoorM15
import Derived.Test.YtcfnjpokfodmoaaGreatDoorM16
import Derived.Test.YtcfnjpokfodmoaaGreatDoorM35
import Derived.Test.YtcfnjpokfodmoaaGreatDoorM41
import Derived.Test.YtcfnjpokfodmoaaGreatDoorM43
import Derived.Test.YtcfnjpokfodmoaaGreatDoorM44
set_option maxRecDepth 100000
set_option linter.unusedVariables false
namespace Go.Proofs.YtcfnjpokfodmoaaGreatDoor
open Go.RowKit
theorem strL_cat (a b:ByteArray):strL (a ++ b) = strL a ++ strL b:=by
 rw [strL_map,strL_map,strL_map,← List.map_append]
 congr 1
theorem idxL_before {row:List Nat} {c k:Nat} (h:k < idxL row c):row[k]? ≠ some c:=by
 intro e
 obtain ⟨hk,he⟩:=List.getElem?_eq_some_iff.1 e
 have:=List.not_of_lt_findIdx (p:=fun x => x == c) (xs:=row) (i:=k) h
 simp [he] at this
set_option maxHeartbeats 1000000 in
theorem mtfFind_any (rs:ByteArray) (c:Nat) (w:World) (hr:RowOK (strL rs)) (hc:c < 256) :
 Calls Tryz.prog 211 #[.string rs,.int .u8 c] w fun e w' => e = .returned (.int .i64 (idxL (strL rs) c:Nat)) ∧ w' = w:=by
 have hs:rs.size = 256:=by rw [← strL_length];exact hr.len
 have hI:=idxL_lt hr hc
 have h1:∀ k,k < idxL (strL rs) c → byt rs k ≠ c:=fun k hk e => idxL_before hk (by rw [strL_get (by omega),e])
 have h2:byt rs (idxL (strL rs) c) = c:=by
  have:=idxL_get hr hc
  rw [List.getD_eq_getElem?_getD,strL_get (by omega)] at this
  exact this
 obtain ⟨I,hIe⟩:∃ I,I = idxL (strL rs) c:=⟨_,rfl⟩
 rw [← hIe] at hI h1 h2 ⊢
 have hIs:I < rs.size:=by omega
 have H1:=hide h1
 have H2:=hide h2
 clear h1 h2 hIe hs hr
 go_enter Tryz.func211,Tryz.ntmps211
 go_wp2_with fail
 go_loopw [5] (fun i wr => ∃ k:Nat,k ≤ I ∧ i = .int .i64 k ∧ w = wr) (fun i _ => 256 - (intOf i).toNat)
 case atStart => exact ⟨0,by omega,rfl,rfl⟩
 case round =>
  obtain ⟨k,hk,rfl,rfl⟩:=hrel
  have hks:k < rs.size:=by omega
  obtain ⟨x,hx⟩:∃ x,x = byt rs k:=⟨_,rfl⟩
  have hcs:(rs[k]'hks).toNat = x:=by rw [hx,byt_of]
  by_cases e:k = I
  · have hxc:x = c:=by rw [hx,e,H2.out]
    have hd:((x:Int) == (c:Int)) = true:=by simp [hxc]
    have HE:=hide e
    clear hx hxc e
    go_wp2_with fail
    go_ret
    exact ⟨by rw [HE.out];rfl,rfl⟩
  · have hne:x ≠ c:=by rw [hx];exact H1.out k (by omega)
    have hd:((x:Int) == (c:Int)) = false:=by simp;omega
    clear hx hne
    go_wp2_with fail
    go_roundw
    case rel => exact ⟨k + 1,by omega,by go_num,by first | rfl | trivial⟩
    case measure => simp [intOf];omega
set_option maxHeartbeats 1000000 in
theorem mtfCheck_any (rs:ByteArray) (w:World) (hr:RowOK (strL rs)) :
 Calls Tryz.prog 146 #[.string rs] w fun e w' => e = .returned (.int .i64 0) ∧ w' = w:=by
 have hs:rs.size = 256:=by rw [← strL_length];exact hr.len
 have hd:((rs.size:Int) != 256) = false:=by simp;omega
 have HF:=hide (fun (k:Nat) (hk:k < 256) (W:World) => mtfFind_any rs k W hr hk)
 clear hr hs
 go_enter Tryz.func146,Tryz.ntmps146
 go_wp2_with fail
 go_loopw [3] (fun i wr => ∃ k:Nat,k ≤ 256 ∧ i = .int .i64 k ∧ w = wr) (fun i _ => 256 - (intOf i).toNat)
 case atStart => exact ⟨0,by omega,rfl,rfl⟩
 case round =>
  obtain ⟨k,hk,rfl,rfl⟩:=hrel
  by_cases hlt:k < 256
  · have f:=HF.out k hlt w
    obtain ⟨j,hj⟩:∃ j,j = idxL (strL rs) k:=⟨_,rfl⟩
    rw [← hj] at f
    have hF:=hide f
    clear f hj
    go_wp2_with (go_at_call 211;refine (Calls.mono hF.out ?_);rintro e w1 ⟨rfl,hww⟩;replace hww:=hww.symm;subst hww)
    go_roundw
    case rel => exact ⟨k + 1,by omega,by go_num,by first | rfl | trivial⟩
    case measure => simp [intOf];omega
  · obtain rfl:k = 256:=by omega
    go_wp2_with fail
    go_ret
    exact ⟨rfl,rfl⟩
set_option maxHeartbeats 1000000 in
theorem mtfFresh_any (w:World):Calls Tryz.prog 66 #[] w fun e w' => e = .returned (.string (strOf freshL)) ∧ Below w.heap.size w w':=by
 have hmk:∀ W:World,(Instr.makeSlice 38 (.int .i64 256) (.int .i64 256)).run Tryz.prog W = .ok (.slice (some ⟨W.heap.size,0,none⟩) 256 256) (W.alloc (.cells (madeCells #[.int .u8 0] 256) 5)):=fun W => run_make_row' (P:=Tryz.prog) 38 5 (.int .u8 0) 1 Tryz.underlying38 info_u8 rfl .i64 .i64 256 (by omega) (by omega) W
 have hz0:madeCells #[.int .u8 0] 256 = (vby (freshL.take 0 ++ List.replicate (256 - 0) 0)).toArray:=by kernel_rfl
 have HZ0:=hide hz0
 clear hz0
 go_enter Tryz.func66,Tryz.ntmps66
 go_wp2_with fail
 go_loopw [6] (fun i wr => ∃ k:Nat,k ≤ 256 ∧ i = .int .i64 k ∧ Hid (Bk wr w.heap.size 5 (vby (freshL.take k ++ List.replicate (256 - k) 0)).toArray) ∧ Below w.heap.size w wr) (fun i _ => 256 - (intOf i).toNat)
 case atStart => exact ⟨0,by omega,rfl,hide (by rw [← HZ0.out];exact Bk.new w _ _),(Below.refl _ _).alloc (Nat.le_refl _) _⟩
 case round =>
  clear HZ0 hmk
  obtain ⟨k,hk,rfl,h1,hbe⟩:=hrel
  by_cases hlt:k < 256
  · have hlen:(vby (freshL.take k ++ List.replicate (256 - k) 0)).length = 256:=by rw [vby_length];simp [freshL];omega
    obtain ⟨v,hv⟩:∃ v,wr.cell? ⟨w.heap.size,k,none⟩ = some v:=⟨_,(h1.out.cell k).trans (by rw [List.getElem?_toArray,List.getElem?_eq_getElem (by omega)])⟩
    have hfz:=h1.out.free k
    clear hlen
    go_wp2_with fail
    go_roundw
    case rel =>
     refine ⟨k + 1,by omega,by go_num,hide ?_,hbe.setCell (Nat.le_refl _) _⟩
     have:=h1.out.set_ k (.int .u8 (k:Nat))
     rw [List.setIfInBounds_toArray] at this
     have e:(vby (freshL.take k ++ List.replicate (256 - k) 0)).set k (.int .u8 (k:Nat)) = vby (freshL.take (k + 1) ++ List.replicate (256 - (k + 1)) 0):=by
      rw [← fresh_take k hlt]
      unfold vby
      rw [List.map_set]
     rw [e] at this
     exact this
    case measure => simp [intOf];omega
  · obtain rfl:k = 256:=by omega
    have hfull:freshL.take 256 ++ List.replicate (256 - 256) 0 = freshL:=by
     rw [Nat.sub_self,List.replicate_zero,List.append_nil,List.take_of_length_le (by simp [freshL])]
    rw [hfull] at h1
    have hrd:Rd wr wr.heap.size (some ⟨w.heap.size,0,none⟩) (vby freshL):=bkRdQ h1.out
    have cv:=run_conv Tryz.prog wr 38 5 Tryz.underlying38 Tryz.underlying5 9 Tryz.underlying9 hrd 256
    have hfl:freshL.length = 256:=by simp [freshL]
    rw [hfl] at cv
    clear hfull hrd hfl
    go_wp2_with fail
    go_ret
    exact ⟨rfl,hbe⟩
set_option maxHeartbeats 1000000 in
theorem mtfFront_any (rs:ByteArray) (i:Nat) (w:World) (hr:RowOK (strL rs)) (hi:i < 256) :
 Calls Tryz.prog 212 #[.string rs,.int .i64 i] w fun e w' => e = .returned (.string (strOf (liftL (strL rs) i))) ∧ Below w.heap.size w w':=by
 have hs:rs.size = 256:=by rw [← strL_length];exact hr.len
 have hb:=(hr.lift hi).lt
 obtain ⟨i1,hi1⟩:∃ i1,i1 = i + 1:=⟨_,rfl⟩
 have hiI:(i:Int) + 1 = (i1:Int):=by omega
 have hi1w:IntKind.i64.wrap (i1:Int) = (i1:Int):=IntWalk.i64_in _ ⟨by omega,by omega⟩
 have hi1s:i1 ≤ rs.size:=by omega
 have hii:i ≤ i1:=by omega
 have hc1:(9223372036854775807 < i1) = False:=eq_false (by omega)
 have hc2:(9223372036854775807 < rs.size) = False:=eq_false (by omega)
 have hres:rs.extract i i1 ++ rs.extract 0 i ++ rs.extract i1 rs.size = strOf (liftL (strL rs) i):=by
  rw [hi1]
  refine strL_inj ?_
  rw [strL_of hb,strL_cat,strL_cat,strL_sub,strL_sub,strL_sub]
  unfold liftL
  rw [List.drop_zero,List.take_of_length_le (l:=strL rs) (i:=rs.size) (by rw [strL_length];exact Nat.le_refl _)]
  have h1:((strL rs).take (i + 1)).drop i = [(strL rs).getD i 0]:=by
   rw [List.take_add_one,List.drop_append_of_le_length (by rw [List.length_take,strL_length];omega),List.drop_eq_nil_of_le (by rw [List.length_take];omega),strL_get (by omega),List.getD_eq_getElem?_getD,strL_get (by omega)];rfl
  rw [h1];rfl
 have hi2:i ≤ rs.size:=by omega
 have HR:=hide hres
 clear hres hb hr hs hi1
 go_enter Tryz.func212,Tryz.ntmps212
 go_wp2_with fail
 go_region
 all_goals go_wp2_with fail
 all_goals go_ret
 all_goals exact ⟨by rw [← HR.out];rfl,by go_grown⟩
set_option maxHeartbeats 2000000 in
theorem mtfMove_any (rs s:ByteArray) (w:World) (hr:RowOK (strL rs)) (hs:s.size ≤ 65536) :
 Calls Tryz.prog 152 #[.string rs,.string s] w fun e w' => e = .returned (.tuple #[.string (strOf (toL (strL rs) (strL s)).1),.string (strOf (toL (strL rs) (strL s)).2),.int .i64 0]) ∧ Below w.heap.size w w':=by
 obtain ⟨i0,hi,hz0,hz1,hz2⟩:=info_parts info_u8
 have d0:decide ((65536:Int) < (s.size:Int)) = false:=decide_eq_false (by omega)
 have HCk:=hide (fun (W:World) => mtfCheck_any rs W hr)
 have HRk:=hide hr
 obtain ⟨row,hrow⟩:∃ row,row = strL rs:=⟨_,rfl⟩
 have HRow:=hide hrow
 clear hr hrow
 go_enter Tryz.func152,Tryz.ntmps152
 go_wp2_with (go_at_call 146;refine (Calls.mono (HCk.out _) ?_);rintro e w1 ⟨rfl,hww⟩;replace hww:=hww.symm;subst hww)
 go_loopw [0,7,8] (fun r v i wr => ∃ (k:Nat) (R:ByteArray),k ≤ s.size ∧ i = .int .i64 k ∧ r = .string R ∧ Hid (strL R = (toL row ((strL s).take k)).2) ∧ Hid (wr.ownsRow w.heap.size 5 1 v k (vby (toL row ((strL s).take k)).1)) ∧ Below w.heap.size w wr) (fun _ _ i _ => s.size - (intOf i).toNat)
 case atStart => exact ⟨0,rs,by omega,rfl,rfl,hide (by rw [List.take_zero,HRow.out];rfl),hide (by rw [List.take_zero];exact World.ownsRow_nil _ _ _ _),Below.refl _ _⟩
 case round =>
  obtain ⟨k,R,hk,rfl,rfl,HR,HO,hbe⟩:=hrel
  have hz:=hbe.size
  by_cases hlt:k < s.size
  · obtain ⟨c,hc⟩:∃ c,c = byt s k:=⟨_,rfl⟩
    have hc256:c < 256:=by rw [hc];exact byt_lt s k
    have hcs:(s[k]'hlt).toNat = c:=by rw [hc,byt_of]
    have hRok:RowOK (strL R):=by
     rw [HR.out]
     exact (toL_ok (by rw [HRow.out];exact HRk.out) (fun x hx => strL_lt s x (List.mem_of_mem_take hx))).1
    have hst:toL row ((strL s).take (k + 1)) = ((toL row ((strL s).take k)).1 ++ [idxL (strL R) c],liftL (strL R) (idxL (strL R) c)):=by
     rw [strL_take hlt,toL_snoc,← hc,HR.out]
    obtain ⟨j,hj⟩:∃ j,j = idxL (strL R) c:=⟨_,rfl⟩
    have hj256:j < 256:=by rw [hj];exact idxL_lt hRok hc256
    have ff:=fun (W:World) => mtfFind_any R c W hRok hc256
    have fr:=fun (W:World) => mtfFront_any R j W hRok hj256
    have hl2:∀ x ∈ liftL (strL R) j,x < 256:=(hRok.lift hj256).lt
    rw [← hj] at ff hst
    obtain ⟨R2,hR2⟩:∃ R2,R2 = strOf (liftL (strL R) j):=⟨_,rfl⟩
    have hR2l:strL R2 = liftL (strL R) j:=by rw [hR2];exact strL_of hl2
    rw [← hR2] at fr
    rw [← hR2l] at hst
    have HFf:=hide ff
    have HFr:=hide fr
    have HSt:=hide hst
    clear ff fr hst hj hR2 hR2l hl2 hRok hc
    go_wp2_with (first
     | (go_at_call 211;refine (Calls.mono (HFf.out _) ?_);rintro e w1 ⟨rfl,hww⟩;replace hww:=hww.symm;subst hww)
     | (at_builtin;refine wpList_append_own _ rfl (.tmp 27) (.tmp 30) 38 rfl w.heap.size 5 i0 (.int .u8 0) 1 1 Tryz.underlying38 hi hz0 hz1 hz2 rfl (by decide) _ _ _ rfl (HO.out.alloc _) ⟨wr.heap.size,0,none⟩ 1 1 [.int .u8 j] rfl rfl (cell_one_new _ _ _) (by intro u hu;simp at hu;subst hu;rfl) (by unfold maxLen;omega) (by omega) (by simp;omega) ?_;intro v2 w2 hown2 hgr2 _
        have hbe2:Below w.heap.size w w2:=(hbe.alloc hz (.cells #[.int .u8 j] 5)).grown hgr2 (by simp;omega) (fun g hg => (HO.out.lt g hg).1)
        have HO2:=hide hown2
        have hz2w:=hbe2.size
        clear hown2 hgr2)
     | (go_at_call 212;refine (Calls.mono (HFr.out _) ?_);rintro e w3 ⟨rfl,hb3⟩
        have HO3:=hide (own_fr HO2.out (Fr.below hb3 (fun _ => False)) (fun _ _ h => h))
        have hbe3:=hbe2.trans (hb3.mono hz2w)
        clear hb3))
    go_roundw
    case rel => exact ⟨k + 1,R2,by omega,by go_num,rfl,hide (by rw [HSt.out]),hide (by rw [HSt.out];unfold vby;rw [List.map_append];exact HO3.out),hbe3⟩
    case measure => simp [intOf];omega
  · obtain rfl:k = s.size:=by omega
    have hO:=HO.out
    have hR:=HR.out
    rw [List.take_of_length_le (by rw [strL_length];exact Nat.le_refl _)] at hO hR
    have hlen:(toL row (strL s)).1.length = s.size:=by rw [(toL_ok (by rw [HRow.out];exact HRk.out) (strL_lt s)).2.2,strL_length]
    have HR2:=hide (show R = strOf (toL row (strL s)).2 by rw [← hR,strOf_strL])
    have HOr:=hide (own_form' hO)
    obtain ⟨A,cA,rfl,hrd⟩:=HOr.out
    have cv:=run_conv Tryz.prog wr 38 5 Tryz.underlying38 Tryz.underlying5 9 Tryz.underlying9 hrd cA
    rw [hlen] at cv
    clear hO hR HO HR hrd hlen
    go_wp2_with fail
    refine bodyPost_ret (v:=.tuple #[.string (strOf (toL row (strL s)).1),.string R,.int .i64 0]) (by simp [results,Tryz.results152,go_sem]) rfl ?_
    exact ⟨by rw [← HRow.out,HR2.out],hbe⟩
set_option maxHeartbeats 1000000 in
theorem refCounts_any (A:Option Addr) (l:List Nat) (c:Nat) (w:World) (h:Rd w w.heap.size A (l.map u64V)) (hl:l.length ≤ 1000000) (hx:∀ x ∈ l,x < 258) :
 Calls Tryz.prog 147 #[.slice A l.length c] w fun e w' => ∃ g,e = .returned (.slice (some ⟨g,0,none⟩) 258 258) ∧ w.heap.size ≤ g ∧ Bk w' g 22 ((weightsL l).map (Value.int .u64)).toArray ∧ Below w.heap.size w w':=by
 have H:=hide h
 have HXr:=hide hx
 clear h hx
 have hmk:∀ W:World,(Instr.makeSlice 93 (.int .i64 258) (.int .i64 258)).run Tryz.prog W = .ok (.slice (some ⟨W.heap.size,0,none⟩) 258 258) (W.alloc (.cells (madeCells #[.int .u64 0] 258) 22)):=fun W => run_make_row' (P:=Tryz.prog) 93 22 (.int .u64 0) 8 Tryz.underlying93 info_u64 rfl .i64 .i64 258 (by omega) (by omega) W
 have hz0:madeCells #[.int .u64 0] 258 = ((weightsL (l.take 0)).map (Value.int .u64)).toArray:=by rw [List.take_zero];kernel_rfl
 have HZ0:=hide hz0
 clear hz0
 go_enter Tryz.func147,Tryz.ntmps147
 go_wp2_with fail
 go_loopw [9] (fun i wr => ∃ k:Nat,k ≤ l.length ∧ i = .int .i64 k ∧ Hid (Bk wr w.heap.size 22 ((weightsL (l.take k)).map (Value.int .u64)).toArray) ∧ Below w.heap.size w wr) (fun i _ => l.length - (intOf i).toNat)
 case atStart => exact ⟨0,by omega,rfl,hide (by rw [← HZ0.out];exact Bk.new w _ _),(Below.refl _ _).alloc (Nat.le_refl _) _⟩
 case round =>
  clear HZ0 hmk
  obtain ⟨k,hk,rfl,hb,hbe⟩:=hrel
  by_cases hlt:k < l.length
  · obtain ⟨x,hx⟩:∃ x,l[k]? = some x:=⟨l[k],List.getElem?_eq_getElem hlt⟩
    have hx258:=HXr.out x (List.mem_of_getElem? hx)
    obtain ⟨b,o,hA,hbb,hc0⟩:=H.out k (u64V x) (by rw [List.getElem?_map,hx];rfl)
    subst hA
    have hc:wr.cell? ⟨b,o + k,none⟩ = some (.int .u64 (x:Nat)):=(hbe.cell (p:=⟨b,o + k,none⟩) hbb).trans hc0
    have HSt:=hide (weights_step hx hx258)
    obtain ⟨C,hC⟩:∃ C,C = (l.take k).count x:=⟨_,rfl⟩
    have hCl:C ≤ l.length:=by
     rw [hC]
     have:=List.count_le_length (a:=x) (l:=l.take k)
     rw [List.length_take] at this
     omega
    have hcw:wr.cell? ⟨w.heap.size,x,none⟩ = some (.int .u64 (C:Nat)):=by
     rw [hb.out.cell x,List.getElem?_toArray]
     unfold weightsL
     rw [List.getElem?_map,List.getElem?_map,List.getElem?_range hx258,hC];rfl
    have hfw:=hb.out.free x
    rw [← hC] at HSt
    clear hc0 hx hC
    go_wp2_with fail
    go_roundw
    case rel =>
     refine ⟨k + 1,by omega,by go_num,hide ?_,hbe.setCell (Nat.le_refl _) _⟩
     have:=hb.out.set_ x (.int .u64 ((C:Int) + 1))
     rw [List.setIfInBounds_toArray,HSt.out] at this
     exact this
    case measure => simp [intOf];omega
  · obtain rfl:k = l.length:=by omega
    have HF:=hide (show Bk wr w.heap.size 22 ((weightsL l).map (Value.int .u64)).toArray by have:=hb.out;rwa [List.take_of_length_le (Nat.le_refl _)] at this)
    clear hb
    go_wp2_with fail
    go_ret
    exact ⟨w.heap.size,rfl,Nat.le_refl _,HF.out,hbe⟩
set_option maxHeartbeats 1000000 in
theorem refSymbols_any (rs s:ByteArray) (w:World) (hr:RowOK (strL rs)) (hs:s.size ≤ 65536) :
 Calls Tryz.prog 108 #[.string rs,.string s] w fun e w' => ∃ A c,e = .returned (.tuple #[.slice A (encZ 0 (toL (strL rs) (strL s)).1).length c,.string (strOf (toL (strL rs) (strL s)).2)]) ∧ Rd w' w'.heap.size A ((encZ 0 (toL (strL rs) (strL s)).1).map u64V) ∧ Below w.heap.size w w':=by
 obtain ⟨_,h2,h3⟩:=toL_ok hr (strL_lt s)
 have mv:=fun (W:World) => mtfMove_any rs s W hr hs
 have en:=fun (W:World) => refEncode_any (strOf (toL (strL rs) (strL s)).1) W (by rw [strOf_size,h3,strL_length];exact hs)
 rw [strL_of h2] at en
 obtain ⟨X,hX⟩:∃ X,X = strOf (toL (strL rs) (strL s)).1:=⟨_,rfl⟩
 obtain ⟨Y,hY⟩:∃ Y,Y = strOf (toL (strL rs) (strL s)).2:=⟨_,rfl⟩
 obtain ⟨L,hL⟩:∃ L,L = encZ 0 (toL (strL rs) (strL s)).1:=⟨_,rfl⟩
 rw [← hX,← hY] at mv
 rw [← hX,← hL] at en
 rw [← hY,← hL]
 have HMv:=hide mv
 have HEn:=hide en
 clear mv en hX hY hL h2 h3 hr
 go_enter Tryz.func108,Tryz.ntmps108
 go_wp2_with (first
  | (go_at_call 152;refine (Calls.mono (HMv.out _) ?_);rintro e w1 ⟨rfl,hb1⟩;have HB1:=hide hb1;clear hb1)
  | (go_at_call 153;refine (Calls.mono (HEn.out _) ?_);rintro e w2 ⟨A,c,rfl,hr2,hb2⟩;have HB2:=hide (HB1.out.trans (hb2.mono HB1.out.size));have HR2:=hide hr2;clear hb2 hr2))
 go_ret2
 exact ⟨A,c,rfl,HR2.out,HB2.out⟩
set_option maxHeartbeats 1000000 in
theorem refWeights_any (rs s:ByteArray) (w:World) (hr:RowOK (strL rs)) (h0:s.size ≠ 0) (hs:s.size ≤ 512) :
 Calls Tryz.prog 106 #[.string rs,.string s] w fun e w' => ∃ A c,e = .returned (.tuple #[.slice A 258 c,.int .i64 0]) ∧ Rd w' w'.heap.size A ((weightsL (encZ 0 (toL (strL rs) (strL s)).1)).map (Value.int .u64)) ∧ Below w.heap.size w w':=by
 obtain ⟨_,h2,h3⟩:=toL_ok hr (strL_lt s)
 have hE:=not_empty h0
 have d0:decide ((512:Int) < (s.size:Int)) = false:=decide_eq_false (by omega)
 have hl:=encZ_snoc_len (toL (strL rs) (strL s)).1 0
 rw [h3,strL_length] at hl
 have hsy:=encZ_sym 0 h2
 have ck:=fun (W:World) => mtfCheck_any rs W hr
 have sy:=fun (W:World) => refSymbols_any rs s W hr (by omega)
 obtain ⟨Y,hY⟩:∃ Y,Y = strOf (toL (strL rs) (strL s)).2:=⟨_,rfl⟩
 obtain ⟨L,hL⟩:∃ L,L = encZ 0 (toL (strL rs) (strL s)).1:=⟨_,rfl⟩
 rw [← hY,← hL] at sy
 rw [← hL] at hl hsy ⊢
 have HCk:=hide ck
 have HSy:=hide sy
 have HCo:=hide (fun (A:Option Addr) (c:Nat) (W:World) (h:Rd W W.heap.size A (L.map u64V)) => refCounts_any A L c W h (by omega) (fun x hx => by have:=hsy x hx;omega))
 clear ck sy hY hL h2 h3 hr hsy
 go_enter Tryz.func106,Tryz.ntmps106
 go_wp2_with (first
  | (go_at_call 146;refine (Calls.mono (HCk.out _) ?_);rintro e w1 ⟨rfl,hww⟩;replace hww:=hww.symm;subst hww)
  | (go_at_call 108;refine (Calls.mono (HSy.out _) ?_);rintro e w1 ⟨A,c,rfl,hr1,hb1⟩;have HB1:=hide hb1;have HR1:=hide hr1;clear hb1 hr1)
  | (go_at_call 147;refine (Calls.mono (HCo.out _ _ _ HR1.out) ?_);rintro e w2 ⟨g,rfl,_,hk2,hb2⟩;have HB2:=hide (HB1.out.trans (hb2.mono HB1.out.size));have HK2:=hide hk2;clear hb2 hk2))
 go_ret2
 exact ⟨some ⟨g,0,none⟩,258,rfl,bkRdQ HK2.out,HB2.out⟩
theorem segBits_nat (l:List Nat):segBits l = tableL (lensN l) ++ l.flatMap (codeB (lensL l)):=by
 unfold segBits
 rw [lensL_map,tabBits_nat]
theorem segLens_any (A:Option Addr) (c:Nat) (L:List Nat) (w:World) (h:Rd w w.heap.size A ((weightsL L).map (Value.int .u64))) (hl:L.length ≤ 1000000) :
 Calls Tryz.prog 107 #[.slice A 258 c,.int .i64 15] w fun e w' => ∃ A' c',e = .returned (.tuple #[.slice A' 258 c',.int .i64 0]) ∧ Rd w' w'.heap.size A' (natsV (lensN L)) ∧ Below w.heap.size w w':=by
 have:=refLengths_any A (weightsL L) c 15 w h (by rw [weightsL_length];decide) (fun x hx => (weightsL_mem hx).1) ⟨by decide,by decide⟩ (.inl (by rw [weightsL_length];decide))
 rw [weightsL_length] at this
 refine this.mono ?_
 rintro e w' ⟨hb,h⟩
 have hz:=seg_packW hl
 rcases h with ⟨_,A',c',he,hr,_⟩ | ⟨hne,_⟩
 · rw [weightsL_length] at he
   exact ⟨A',c',he,hr,hb⟩
 · exact absurd hz hne
theorem segWrite21_any (L:List Nat) (s s2:ByteArray) (n:Nat) (A As:Option Addr) (c cs:Nat) (w:World) (hx:∀ x ∈ L,x < 258) (hl:L.length ≤ 1000000) (hroom:n + (segBits L).length ≤ 1048576) (hb:Bs s2 ((n + (tableL (lensN L)).length:Nat):Int) (bitsL s n ++ tableL (lensN L)))
 (h:Rd w w.heap.size A (natsV (lensN L))) (hs:Rd w w.heap.size As (L.map u64V)) :
 Calls Tryz.prog 110 #[bstr s2 ((n + (tableL (lensN L)).length:Nat):Int),.slice A 258 c,.slice As L.length cs] w fun e w' => ∃ s3,e = .returned (.tuple #[bstr s3 ((n + (segBits L).length:Nat):Int),.int .i64 0]) ∧ Bs s3 ((n + (segBits L).length:Nat):Int) (bitsL s n ++ segBits L) ∧ Below w.heap.size w w':=by
 have hsb:=segBits_nat L
 have hlen:(segBits L).length = (tableL (lensN L)).length + (L.flatMap (codeB (lensL L))).length:=by rw [hsb,List.length_append]
 have e1:natsV (lensN L) = (lensL L).map (Value.int .i64):=natsV_int (lensN L)
 have e2:L.map u64V = (L.map Int.ofNat).map (Value.int .u64):=by rw [List.map_map];rfl
 rw [e1] at h
 rw [e2] at hs
 have hR:=rightB_n hb.1
 have:=refWrite_any A As (lensL L) (L.map Int.ofNat) c cs s2 ((n + (tableL (lensN L)).length:Nat):Int) w h hs (by rw [lensL_length];decide) (by rw [List.length_map];omega) (fun x hx2 => by
  obtain ⟨y,hy,rfl⟩:=List.mem_map.1 hx2
  have:=hx y hy
  exact ⟨by simp,by simp only [Int.ofNat_eq_natCast];omega⟩) ⟨by omega,by omega⟩ (by omega)
 rw [lensL_length,List.length_map] at this
 have hw:=writeR_all (ls:=lensL L) (xs:=L) hb.1 (seg_ok L) (fun x hx2 => seg_has hx2 (hx x hx2)) (by omega)
 have hbl:bitsL s2 (n + (tableL (lensN L)).length) = bitsL s n ++ tableL (lensN L):=by
  have h2:=hb.2.2
  rwa [show (bitsL s n ++ tableL (lensN L)).length = n + (tableL (lensN L)).length by rw [List.length_append,bitsL_length]] at h2
 rw [hbl] at hw
 rw [hw] at this
 refine this.mono ?_
 rintro e w' ⟨s3,n3,rfl,h0,_,_,hbe⟩
 have hB:=h0 rfl
 have hn3:n3 = ((n + (segBits L).length:Nat):Int):=by
  have:=hB.2.1
  rw [this,hlen]
  simp only [List.length_append,bitsL_length]
  omega
 have hB2:Bs s3 n3 (bitsL s n ++ segBits L):=by rw [hsb,← List.append_assoc];exact hB
 rw [hn3] at hB2
 exact ⟨s3,by rw [hn3],hB2,hbe⟩
set_option maxHeartbeats 4000000 in
theorem refSegEnc_any (s:ByteArray) (n:Nat) (rs tx:ByteArray) (w:World) (hr:rightB s n = true) (hR:RowOK (strL rs)) (h0:tx.size ≠ 0) (hs:tx.size ≤ 512) (hroom:n + (segBits (encZ 0 (toL (strL rs) (strL tx)).1)).length ≤ 1048576) :
 Calls Tryz.prog 67 #[bstr s n,.string rs,.string tx] w fun e w' => ∃ s',e = .returned (.tuple #[bstr s' ((n + (segBits (encZ 0 (toL (strL rs) (strL tx)).1)).length:Nat):Int),.string (strOf (toL (strL rs) (strL tx)).2),.int .i64 0]) ∧ Bs s' ((n + (segBits (encZ 0 (toL (strL rs) (strL tx)).1)).length:Nat):Int) (bitsL s n ++ segBits (encZ 0 (toL (strL rs) (strL tx)).1)) ∧ Below w.heap.size w w':=by
 obtain ⟨_,h2,h3⟩:=toL_ok hR (strL_lt tx)
 have hl:=encZ_snoc_len (toL (strL rs) (strL tx)).1 0
 rw [h3,strL_length] at hl
 have hsy:=encZ_sym 0 h2
 have hR1:=rightB_n hr
 have ck1:=fun (W:World) => refCheck_any s n W ⟨by omega,by omega⟩ (by omega)
 rw [right_chk hr] at ck1
 have we:=fun (W:World) => refWeights_any rs tx W hR h0 hs
 have sy:=fun (W:World) => refSymbols_any rs tx W hR (by omega)
 obtain ⟨Y,hY⟩:∃ Y,Y = strOf (toL (strL rs) (strL tx)).2:=⟨_,rfl⟩
 obtain ⟨L,hL⟩:∃ L,L = encZ 0 (toL (strL rs) (strL tx)).1:=⟨_,rfl⟩
 rw [← hL] at we hl hsy hroom
 rw [← hY,← hL] at sy
 rw [← hY,← hL]
 have hx:∀ x ∈ L,x < 258:=fun x hx => by have:=hsy x hx;omega
 have le:=fun (A:Option Addr) (c:Nat) (W:World) (h:Rd W W.heap.size A ((weightsL L).map (Value.int .u64))) => segLens_any A c L W h (by omega)
 have hsb:=segBits_nat L
 have hT:(tableL (lensN L)).length ≤ (segBits L).length:=by rw [hsb,List.length_append];omega
 have htw:=seg_tab L
 rw [lensL_map] at htw
 have w22:=fun (A:Option Addr) (c:Nat) (W:World) (h:Rd W W.heap.size A (natsV (lensN L))) => by
  have:=refTabWrite_any A (lensN L) c s n W h hr htw (by omega)
  rw [lensN_length] at this
  exact this
 have w21:=fun (s2:ByteArray) (A As:Option Addr) (c cs:Nat) (W:World) (hb:Bs s2 ((n + (tableL (lensN L)).length:Nat):Int) (bitsL s n ++ tableL (lensN L))) (h:Rd W W.heap.size A (natsV (lensN L))) (hs:Rd W W.heap.size As (L.map u64V)) => segWrite21_any L s s2 n A As c cs W hx (by omega) hroom hb h hs
 obtain ⟨T,hTe⟩:∃ T,T = n + (tableL (lensN L)).length:=⟨_,rfl⟩
 obtain ⟨M,hM⟩:∃ M,M = n + (segBits L).length:=⟨_,rfl⟩
 rw [← hTe] at w22 w21
 rw [← hM] at w21 ⊢
 have HCk1:=hide ck1
 have HWe:=hide we
 have HSy:=hide sy
 have HLe:=hide le
 have HW22:=hide w22
 have HW21:=hide w21
 clear ck1 we sy le w22 w21 hTe hM htw hT hsb hx hY hL hl hsy h2 h3 hroom hR1 hr hR h0 hs
 go_enter Tryz.func67,Tryz.ntmps67
 go_wp2_with (first
  | (go_at_call 110;refine (Calls.mono (HW21.out _ _ _ _ _ _ HBs5.out ((HR3.out.below HB35.out).more HB35.out.size) ((HR4.out.below HB45.out).more HB45.out.size)) ?_);rintro e w6 ⟨s6,rfl,hbs6,hb6⟩;have HB6:=hide ((HB5.out.alloc HB5.out.size (.cells #[.string s5,.int .i64 T] 27)).trans (hb6.mono (by have:=HB5.out.size;simp;omega)));have HBs6:=hide hbs6;have KR6:=hide ((KR5.out.alloc (.cells #[.string s5,.int .i64 T] 27)).keep hb6);obtain ⟨x0,x1⟩:=two_cells KR6.out;have y0:=KR6.out.free 0;have y1:=KR6.out.free 1;have hz6:=KR6.out.lt;clear hbs6 hb6)
  | (go_at_call 109;refine (Calls.mono (HW22.out _ _ _ ((HR3.out.below HB34.out).more HB34.out.size)) ?_);rintro e w5 ⟨s5,rfl,hbs5,hb5⟩;have HB5:=hide (HB4.out.trans (hb5.mono HB4.out.size));have HB35:=hide ((HB34.out.trans (hb5.mono HB34.out.size)).alloc (by have:=HB34.out.size;have:=hb5.size;omega) (.cells #[.string s5,.int .i64 T] 27));have HB45:=hide (hb5.alloc hb5.size (.cells #[.string s5,.int .i64 T] 27));have HBs5:=hide hbs5;have KR5:=hide (KR4.out.keep hb5);clear hbs5 hb5)
  | (go_at_call 108;refine (Calls.mono (HSy.out _) ?_);rintro e w4 ⟨As,cs,rfl,hr4,hb4⟩;have HB4:=hide (HB3.out.trans (hb4.mono HB3.out.size));have HB34:=hide hb4;have HR4:=hide hr4;have KR4:=hide (KR3.out.keep hb4);have kb4:=KB3.out.keep hb4;obtain ⟨p0,p1⟩:=two_cells kb4;clear hr4 hb4 kb4)
  | (go_at_call 107;refine (Calls.mono (HLe.out _ _ _ HR2.out) ?_);rintro e w3 ⟨A3,c3,rfl,hr3,hb3⟩;have HB3:=hide (HB2.out.trans (hb3.mono HB2.out.size));have HR3:=hide hr3;have KR3:=hide (KR2.out.keep hb3);have KB3:=hide (KB2.out.keep hb3);clear hr3 hb3)
  | (go_at_call 106;refine (Calls.mono (HWe.out _) ?_);rintro e w2 ⟨A2,c2,rfl,hr2,hb2⟩;have HB2:=hide (HB1.out.trans (hb2.mono HB1.out.size));have HR2:=hide hr2;have KR2:=hide (KR1.out.keep hb2);have KB2:=hide (KB1.out.keep hb2);clear hr2 hb2 q0 q1)
  | (go_at_call 38;refine (Calls.mono (HCk1.out _) ?_);rintro e w1 ⟨rfl,hb1⟩;have KB1:=hide (((Bk.new w _ _).alloc _).keep hb1);have KR1:=hide ((Bk.new1 w _ _ _).keep hb1);obtain ⟨q0,q1⟩:=two_cells KB1.out;have HB1:Hid (Below w.heap.size w w1):=hide ((((Below.refl _ _).alloc (Nat.le_refl _) _).alloc (by simp) _).trans (hb1.mono (by simp;omega)));clear hb1))
 obtain ⟨t0,t1⟩:=two_cells (((KR6.out.set_ 0 (.string s6)).set_ 1 (.int .i64 (M:Nat))).alloc (.cells #[.string s6,.int .i64 (M:Nat)] 27))
 refine bodyPost_ret (v:=.tuple #[bstr s6 M,.string Y,.int .i64 0]) (by simp [results,Tryz.results67,go_sem,t0,t1]) rfl ?_
 exact ⟨s6,rfl,HBs6.out,((HB6.out.setCell (by simp) _).setCell (by simp) _).alloc (by have:=HB6.out.size;simp;omega) _⟩
end Go.Proofs.YtcfnjpokfodmoaaGreatDoor
