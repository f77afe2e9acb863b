/- Lemmas for the row: DocCol. -/
import Derived.Test.YtcfnjpokfodmoaaGreatDoorM33
import Derived.Test.YtcfnjpokfodmoaaGreatDoorM47
set_option maxRecDepth 100000
set_option linter.unusedVariables false
namespace Go.Proofs.YtcfnjpokfodmoaaGreatDoor
open Go.RowKit Go.Sort
set_option maxHeartbeats 2000000 in
theorem refColumn_big (s:ByteArray) (w:World) (h1:4096 < s.size) (h2:s.size ≤ 1048576) :
 Calls Tryz.prog 31 #[.string s] w fun e w' => e = .returned (.tuple #[.string ⟨#[]⟩,.int .i64 0,.int .i64 1]) ∧ RowKit.Below w.heap.size w w':=by
 have HN:=hide (refNumbers_any s w h2)
 have HE:=hide (fun (A:Option Addr) (c:Nat) (W:World) => refEnds_big A s.size c W h1)
 go_enter Tryz.func31,Tryz.ntmps31
 go_wp2_with (first
  | (go_at_call 65;refine (Calls.mono HN.out ?_);rintro e w1 ⟨A,c,rfl,_,_,_,hb1⟩;have HB1:=hide hb1;clear hb1)
  | (go_at_call 64;refine (Calls.mono (HE.out _ _ _) ?_);rintro e w2 ⟨rfl,hww⟩;replace hww:=hww.symm;subst hww))
 refine bodyPost_ret (v:=.tuple #[.string ⟨#[]⟩,.int .i64 0,.int .i64 1]) (by simp [results,Tryz.results31,go_sem]) rfl ?_
 exact ⟨rfl,HB1.out⟩
set_option maxHeartbeats 4000000 in
theorem refColumn_any (s:ByteArray) (w:World) (hs:s.size ≤ 4096) :
 Calls Tryz.prog 31 #[.string s] w fun e w' => ∃ es:List Nat,IsEnds (strL s) es ∧ e = .returned (.tuple #[.string (strOf (colL (strL s) es)),.int .i64 (primL (strL s) es:Nat),.int .i64 0]) ∧ RowKit.Below w.heap.size w w':=by
 have HN:=hide (refNumbers_any s w (by omega))
 have HE:=hide (fun (A:Option Addr) (c:Nat) (W:World) (h:Rd W W.heap.size A ((strL s).map u64V)) (hc:s.size ≤ c) => by
  have:=refEnds_any A (strL s) c W h (by rw [strL_length];omega) (by rw [strL_length];exact hc)
  rw [strL_length] at this
  exact this)
 rcases Nat.eq_zero_or_pos s.size with h0 | hp
 · have:=size_zero h0
   subst this
   go_enter Tryz.func31,Tryz.ntmps31
   go_wp2_with (first
    | (go_at_call 65;refine (Calls.mono HN.out ?_);rintro e w1 ⟨A,c,rfl,hc1,_,hr1,hb1⟩;have HB1:=hide hb1;have HR1:=hide hr1;clear hb1 hr1)
    | (go_at_call 64;refine (Calls.mono (HE.out _ _ _ HR1.out hc1) ?_);rintro e w2 ⟨A2,c2,es,rfl,hie,hr2,hb2⟩;have HB2:=hide (HB1.out.trans (hb2.mono HB1.out.size));clear hb2 hr2 hie))
   refine bodyPost_ret (v:=.tuple #[.string (strOf []),.int .i64 0,.int .i64 0]) (by simp [results,Tryz.results31,go_sem];rfl) rfl ?_
   exact ⟨[],⟨.refl _,List.Pairwise.nil⟩,rfl,HB2.out⟩
 · obtain ⟨i0,hi,hz0,hz1,hz2⟩:=info_parts info_u8
   have hE:=not_empty (by omega:s.size ≠ 0)
   obtain ⟨c0,hc0⟩:∃ c,c = byt s (s.size - 1):=⟨_,rfl⟩
   have hcs:(s[s.size - 1]'(by omega)).toNat = c0:=by rw [hc0,byt_of]
   have HC0:=hide hc0
   clear hc0
   go_enter Tryz.func31,Tryz.ntmps31
   go_wp2_with (first
    | (go_at_call 65;refine (Calls.mono HN.out ?_);rintro e w1 ⟨A,c,rfl,hc1,_,hr1,hb1⟩;have HB1:=hide hb1;have HR1:=hide hr1;clear hb1 hr1)
    | (go_at_call 64;refine (Calls.mono (HE.out _ _ _ HR1.out hc1) ?_);rintro e w5 ⟨A2,c2,es,rfl,hie,hr2,hb2⟩;have HIE:=hide hie;have HBB5:=hide (HB1.out.trans (hb2.mono HB1.out.size));have HR5:=hide hr2;have hz5:=HBB5.out.size;clear hb2 hr2 hie))
   have hel:es.length = s.size:=by rw [HIE.out.perm.length_eq,List.length_range,strL_length]
   have hnd:es.Nodup:=HIE.out.perm.nodup_iff.2 List.nodup_range
   have HND:=hide hnd
   have hes:∀ x ∈ es,x < s.size:=fun x hx => by have:=List.mem_range.1 (HIE.out.perm.mem_iff.1 hx);rwa [strL_length] at this
   have HES:=hide hes
   have hc00:vby (colK (strL s) es 0) = [Value.int .u8 c0]:=by
    unfold colK
    rw [List.take_succ_cons,List.take_zero,strL_length]
    have:(s.size != 0) = true:=bne_iff_ne.2 (by omega)
    simp [this,vby,HC0.out]
    rw [List.getElem?_eq_getElem (by rw [strL_length];omega)]
    have:=strL_get (s:=s) (k:=s.size - 1) (by omega)
    rw [List.getElem?_eq_getElem (by rw [strL_length];omega)] at this
    simp at this ⊢
    exact congrArg (fun x:Nat => (x:Int)) this
   have HC00:=hide hc00
   have hckl:∀ k,(colK (strL s) es k).length ≤ k + 1:=fun k => by
    unfold colK
    rw [List.length_map]
    refine Nat.le_trans (List.length_filter_le _ _) ?_
    rw [List.length_take];omega
   have HCKL:=hide hckl
   have hcl0:(colK (strL s) es 0).length = 1:=by have:=congrArg List.length hc00;simpa using this
   have HO5:=hide (show (w5.alloc (.cells #[.int .u8 c0] 5)).ownsRow w5.heap.size 5 1 (.slice (some ⟨w5.heap.size,0,none⟩) 1 1) 1 [.int .u8 c0] from ⟨rfl,.inr ⟨w5.heap.size,1,#[.int .u8 c0],rfl,Nat.le_refl _,Bk.new w5 5 #[.int .u8 c0],Nat.le_refl _,by decide,rfl,rfl⟩⟩)
   clear hnd hes hc00 hckl hcs
   go_loopw [7,8,30] (fun v p i wr => ∃ (k q:Nat),k ≤ s.size ∧ i = .int .i64 k ∧ p = .int .i64 q ∧ Hid (q = primK es k) ∧ Hid (wr.ownsRow w5.heap.size 5 1 v (colK (strL s) es k).length (vby (colK (strL s) es k))) ∧ Hid (RowKit.Below w5.heap.size w5 wr)) (fun _ _ i _ => s.size - (intOf i).toNat)
   case atStart => exact ⟨0,0,by omega,rfl,rfl,hide (by unfold primK;simp),hide (by rw [HC00.out,hcl0];exact HO5.out),hide ((Below.refl _ w5).alloc (Nat.le_refl _) _)⟩
   case round =>
    clear HO5
    obtain ⟨k,q,hk,rfl,rfl,HQ,HO,HB⟩:=hrel
    have hzz:=HB.out.size
    by_cases hlt:k < s.size
    · obtain ⟨x,hx⟩:∃ x,es[k]? = some x:=⟨es[k],List.getElem?_eq_getElem (by omega)⟩
      have hxs:=HES.out x (List.mem_of_getElem? hx)
      obtain ⟨b2,o2,hA2,hb2,hcx0⟩:=HR5.out k (.int .i64 x) (by unfold natsV;rw [List.getElem?_map,hx];rfl)
      subst hA2
      have hcx:=(HB.out.cell (p:=⟨b2,o2 + k,none⟩) hb2).trans hcx0
      have hcs:=colK_step (s:=strL s) hx
      have hps:=primK_step HND.out hx
      clear hcx0
      rcases Nat.eq_zero_or_pos x with h0 | h0
      · subst h0
        rw [if_pos rfl,List.append_nil] at hcs
        rw [if_pos rfl] at hps
        have HCS:=hide hcs
        have HPS:=hide hps
        clear hcs hps hx
        go_wp2_with fail
        go_roundw
        case rel => exact ⟨k + 1,k + 1,by omega,by go_num,by go_num,hide HPS.out.symm,hide (by rw [HCS.out];exact HO.out),HB⟩
        case measure => simp [intOf];omega
      · obtain ⟨m,rfl⟩:∃ m,x = m + 1:=⟨x - 1,by omega⟩
        have hms:m < s.size:=by omega
        rw [if_neg (by omega),Nat.add_sub_cancel] at hcs
        rw [if_neg (by omega)] at hps
        obtain ⟨c,hc⟩:∃ c,c = byt s m:=⟨_,rfl⟩
        have hg:(strL s).getD m 0 = c:=by rw [List.getD_eq_getElem?_getD,strL_get hms,hc];rfl
        have hcm:(s[m]'hms).toNat = c:=by rw [hc,byt_of]
        rw [hg] at hcs
        have HCS:=hide hcs
        have HPS:=hide hps
        have hlen:=HCKL.out k
        clear hcs hps hx hc hg
        go_wp2_with (at_builtin;refine wpList_append_own _ rfl (.tmp 39) (.tmp 44) 38 rfl w5.heap.size 5 i0 (.int .u8 0) 1 1 Tryz.underlying38 hi hz0 hz1 hz2 rfl (by decide) _ _ _ rfl (HO.out.alloc _) ⟨wr.heap.size,0,none⟩ 1 1 [.int .u8 c] rfl rfl (cell_one_new _ _ _) (by intro u hu;simp at hu;subst hu;rfl) (by unfold maxLen;omega) (by omega) (by simp;omega) ?_;intro v6 w6 hown6 hgr6 _)
        have hbe6:RowKit.Below w5.heap.size w5 w6:=(HB.out.alloc (by omega) (.cells #[.int .u8 c] 5)).grown hgr6 (by simp;omega) (fun g hg => (HO.out.lt g hg).1)
        go_roundw
        case rel =>
         refine ⟨k + 1,q,by omega,by go_num,rfl,hide (by rw [HQ.out,HPS.out]),hide ?_,hide hbe6⟩
         rw [HCS.out,List.length_append,vby,List.map_append]
         exact hown6
        case measure => simp [intOf];omega
    · have hkn:k = s.size:=by omega
      have hcol:colK (strL s) es k = colL (strL s) es:=by
       rw [colL_filter HIE.out]
       unfold colK rowsL
       rw [List.take_of_length_le (by simp;omega)]
      have hprim:primK es k = primL (strL s) es:=by
       unfold primK primL rowsL
       have h0:0 ∈ es:=HIE.out.perm.mem_iff.2 (List.mem_range.2 (by rw [strL_length];omega))
       rw [List.take_of_length_le (by omega),if_pos h0,List.idxOf_cons,strL_length]
       have:(s.size == 0) = false:=beq_eq_false_iff_ne.2 (by omega)
       rw [this]
       rfl
      rw [hcol] at HO
      rw [hprim] at HQ
      subst hkn
      have HOr:=hide (own_form' HO.out)
      obtain ⟨A3,cA,rfl,_⟩:=HOr.out
      have HRd:Hid (Rd wr wr.heap.size A3 (vby (colL (strL s) es))):=hide (by
       obtain ⟨A',c',e,hr⟩:=HOr.out
       cases e
       exact hr)
      have hcv2:=run_conv Tryz.prog wr 38 5 Tryz.underlying38 Tryz.underlying5 9 Tryz.underlying9 HRd.out cA
      clear hcol hprim
      go_wp2_with fail
      refine bodyPost_ret (v:=.tuple #[.string (strOf (colL (strL s) es)),.int .i64 q,.int .i64 0]) (by simp [results,Tryz.results31,go_sem]) rfl ?_
      exact ⟨es,HIE.out,by rw [HQ.out],HBB5.out.trans (HB.out.mono hz5)⟩
end Go.Proofs.YtcfnjpokfodmoaaGreatDoor
