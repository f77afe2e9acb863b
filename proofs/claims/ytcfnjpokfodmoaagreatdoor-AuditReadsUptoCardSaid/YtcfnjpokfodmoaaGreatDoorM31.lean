/- Lemmas for the row: OrdH, OrdR, OrdT, BoxPlain, OpenPlain, AudPlain, Run. -/
import Derived.Test.YtcfnjpokfodmoaaGreatDoorM03
import Derived.Test.YtcfnjpokfodmoaaGreatDoorM08
import Derived.Test.YtcfnjpokfodmoaaGreatDoorM14
import Derived.Test.YtcfnjpokfodmoaaGreatDoorM30
import Derived.Lib.ConvBytes
import Derived.Maps.AppendAt
set_option maxRecDepth 100000
set_option linter.unusedVariables false
namespace Go.Proofs.YtcfnjpokfodmoaaGreatDoor
open Go.RowKit Go.Sort
theorem colL_filter {s es:List Nat} (h:IsEnds s es):colL s es = ((rowsL s es).filter (· != 0)).map fun k => s.getD (k - 1) 0:=by
 unfold colL othersL primL
 rw [← List.erase_eq_eraseIdx_of_idxOf (a:=0) (i:=(rowsL s es).idxOf 0) rfl]
 rw [List.Nodup.erase_eq_filter]
 have:=rowsL_sorted h
 refine this.imp ?_
 rintro a b hab rfl
 unfold sufLt at hab
 rw [lexL_irrefl] at hab
 cases hab
def colK (s es:List Nat) (k:Nat):List Nat:=(((s.length :: es).take (k + 1)).filter (· != 0)).map fun k => s.getD (k - 1) 0
def primK (es:List Nat) (k:Nat):Nat:=if 0 ∈ es.take k then es.idxOf 0 + 1 else 0
theorem bytesWorld_below (w:World) (e:TypeId) (s:ByteArray):RowKit.Below w.heap.size w (Lib.bytesWorld w e s):=⟨rfl,rfl,rfl,by rw [Lib.bytesWorld_size];omega,fun k hk => Lib.bytesWorld_at_old w e s k hk⟩
theorem colK_step {s es:List Nat} {k x:Nat} (h:es[k]? = some x):colK s es (k + 1) = colK s es k ++ if x = 0 then [] else [s.getD (x - 1) 0]:=by
 unfold colK
 rw [List.take_add_one (i:=k + 1),List.getElem?_cons_succ,h,List.filter_append,List.map_append]
 congr 1
 by_cases e:x = 0
 · subst e;rfl
 · rw [if_neg e];simp [e]
theorem primK_step {es:List Nat} {k x:Nat} (hn:es.Nodup) (h:es[k]? = some x):primK es (k + 1) = if x = 0 then k + 1 else primK es k:=by
 obtain ⟨hk,hx⟩:=List.getElem?_eq_some_iff.1 h
 unfold primK
 rw [List.take_add_one,h]
 by_cases e:x = 0
 · subst e
   rw [if_pos rfl,if_pos (by simp)]
   congr 1
   rw [← hx];exact hn.idxOf_getElem k hk
 · rw [if_neg e]
   have:(0 ∈ es.take k ++ (some x).toList) ↔ 0 ∈ es.take k:=by simp [Ne.symm e]
   simp only [this]
theorem ranks_conv (s:ByteArray) (W:World) (c:Nat) (h1:1 ≤ s.size) (hs:s.size ≤ 4096) :
 Calls Tryz.prog 47 #[.slice (some ⟨W.heap.size,0,none⟩) s.size c] (Lib.bytesWorld W 5 s) fun e w' => ∃ (g:Nat) (rk:List Nat),e = .returned (.slice (some ⟨g,0,none⟩) s.size s.size) ∧ W.heap.size + 1 ≤ g ∧ Bk w' g 3 (rk.map fun x:Nat => Value.int .i64 x).toArray ∧ RankOK (strL s) 1 rk ∧ RowKit.Below W.heap.size W w' ∧ W.heap.size + 1 ≤ w'.heap.size:=by
 refine (ranks_any W.heap.size 0 s.size c (strL s) _ (by simp) (by omega) h1 (fun i x hx => ?_) (by rw [Lib.bytesWorld_size];omega)).mono ?_
 · have hi:i < s.size:=by have:=(List.getElem?_eq_some_iff.1 hx).1;simpa using this
   rw [strL_get hi] at hx
   cases hx
   rw [Nat.zero_add,Lib.bytesWorld_cell W _ s i hi,← byt_of s hi,List.getD_eq_getElem?_getD,Array.getElem?_toList,Array.getElem?_eq_getElem (by simpa using hi)]
   rfl
 · rintro e w' ⟨g,rk,rfl,hg,hb,hok,hbe⟩
   rw [Lib.bytesWorld_size] at hg hbe
   have:=hbe.size
   rw [Lib.bytesWorld_size] at this
   exact ⟨g,rk,rfl,hg,hb,hok,(bytesWorld_below W _ s).trans (hbe.mono (by omega)),this⟩
set_option maxHeartbeats 4000000 in
theorem column_any (s:ByteArray) (w:World) (hs:s.size ≤ 4096) :
 Calls Tryz.prog 20 #[.string s] w fun e w' => ∃ es:List Nat,IsEnds (strL s) es ∧ e = .returned (.tuple #[.string (strOf (colL (strL s) es)),.int .i64 (primL (strL s) es:Nat),.int .i64 0]) ∧ RowKit.Below w.heap.size w w':=by
 have d0:decide ((4096:Int) < (s.size:Int)) = false:=decide_eq_false (by omega)
 rcases Nat.eq_zero_or_pos s.size with h0 | hp
 · have:=size_zero h0
   subst this
   go_enter Tryz.func20,Tryz.ntmps20
   go_wp2_with fail
   refine bodyPost_ret (v:=.tuple #[.string (strOf []),.int .i64 0,.int .i64 0]) (by simp [results,Tryz.results20,go_sem];rfl) rfl ?_
   exact ⟨[],⟨.refl _,List.Pairwise.nil⟩,rfl,Below.refl _ _⟩
 · obtain ⟨i0,hi,hz0,hz1,hz2⟩:=info_parts info_u8
   obtain ⟨w1,hmk,hown,hgr⟩:=run_make_own (P:=Tryz.prog) w w.heap.size 38 5 i0 (.int .u8 0) 1 Tryz.underlying38 hi hz0 hz1 .i64 .i64 s.size (by rw [hz2];omega) (by unfold maxLen;omega) (Nat.le_refl _)
   obtain ⟨v0,hv0⟩:∃ v:Value,v = .slice (some ⟨w.heap.size,0,none⟩) 0 s.size:=⟨_,rfl⟩
   rw [← hv0] at hmk hown
   have hv0b:v0.ownBlock = some w.heap.size:=by rw [hv0];rfl
   clear hv0
   have hE:=not_empty (by omega:s.size ≠ 0)
   obtain ⟨c0,hc0⟩:∃ c,c = byt s (s.size - 1):=⟨_,rfl⟩
   have hcs:(s[s.size - 1]'(by omega)).toNat = c0:=by rw [hc0,byt_of]
   have HC0:=hide hc0
   clear hc0
   have hbe1:RowKit.Below w.heap.size w w1:=(Below.refl _ _).grown hgr (Nat.le_refl _) (fun g hg => by cases hg)
   have hz1w:=hbe1.size
   have HB1:=hide hbe1
   clear hbe1 hgr
   have hcv:∀ W:World,(convert 9 38 (.string s)).run Tryz.prog W = .ok (.slice (some ⟨W.heap.size,0,none⟩) s.size (grownCap W s.size 0 5)) (Lib.bytesWorld W 5 s):=fun W => Lib.run_convert_string_bytes W 9 38 5 s Tryz.underlying9 Tryz.underlying38 Tryz.underlying5
   go_enter Tryz.func20,Tryz.ntmps20
   go_wp2_with (first
    | (at_builtin;refine wpList_append_own_at _ rfl (.tmp 17) (.tmp 23) 38 rfl w.heap.size 5 i0 (.int .u8 0) 1 1 Tryz.underlying38 hi hz0 hz1 hz2 rfl (by decide) _ _ _ rfl (hown.alloc _) ⟨w1.heap.size,0,none⟩ 1 1 [.int .u8 c0] rfl rfl (cell_one_new _ _ _) (by intro u hu;simp at hu;subst hu;rfl) (by unfold maxLen;omega) (by omega) (by simp;omega) ?_;intro v2 w2 hown2 hgr2 _ hat2
       have hbe2:RowKit.Below w.heap.size w w2:=(HB1.out.alloc (by omega) (.cells #[.int .u8 c0] 5)).grown hgr2 (by simp;omega) (fun g hg => (hown.lt g hg).1)
       have hl2:=hown2.lt
       have HO2:=hide hown2
       have HB2:=hide hbe2
       have hz2w:=hbe2.size
       clear hown2 hbe2 hgr2 hat2 hmk)
    | (go_at_call 47;refine (ranks_conv s w2 _ (by omega) hs).mono ?_;rintro e w4 ⟨g4,rk,rfl,hg4,hb4,hok4,hbe4,hz4⟩;have HB4:=hide hb4;have HOK4:=hide hok4;have HBE4:=hide hbe4;clear hb4 hok4 hbe4)
    | (go_at_call 46;refine (ends_any g4 s.size s.size (strL s) rk w4 HOK4.out (by simp) (by omega) (by omega) HB4.out).mono ?_;rintro e w5 ⟨E,es,rfl,hE5,hE5b,hie,hie2,hbe5⟩;have HIE:=hide hie;have HI5:=hide hie2;have HBE5:=hide hbe5;clear hie hie2 hbe5))
   have hel:es.length = s.size:=by rw [HIE.out.perm.length_eq,List.length_range,strL_length]
   have hnd:es.Nodup:=HIE.out.perm.nodup_iff.2 List.nodup_range
   have HND:=hide hnd
   have hes:∀ x ∈ es,x < s.size:=fun x hx => by have:=List.mem_range.1 (HIE.out.perm.mem_iff.1 hx);rwa [strL_length] at this
   have HES:=hide hes
   have h25:RowKit.Below w2.heap.size w2 w5:=HBE4.out.trans (HBE5.out.mono (by omega))
   have HO5:=hide (own_fr HO2.out (Fr.below h25 (fun _ => False)) (fun _ _ h => h))
   have hB5:RowKit.Below w.heap.size w w5:=HB2.out.trans (h25.mono (by omega))
   have HBB5:=hide hB5
   have hne5:v2.ownBlock ≠ some E:=fun e => by have:=(hl2 E e).2;omega
   have hc00:vby (colK (strL s) es 0) = [Value.int .u8 c0]:=by
    unfold colK
    rw [List.take_succ_cons,List.take_zero,strL_length]
    have:(s.size != 0) = true:=bne_iff_ne.2 (by omega)
    simp [this,vby,HC0.out]
    rw [List.getElem?_eq_getElem (by rw [strL_length];omega)]
    have:=strL_get (s:=s) (k:=s.size - 1) (by omega)
    rw [List.getElem?_eq_getElem (by rw [strL_length];omega)] at this
    simp at this ⊢
    exact congrArg (fun x:Nat => (x:Int)) this
   have HC00:=hide hc00
   have hckl:∀ k,(colK (strL s) es k).length ≤ k + 1:=fun k => by
    unfold colK
    rw [List.length_map]
    refine Nat.le_trans (List.length_filter_le _ _) ?_
    rw [List.length_take];omega
   have HCKL:=hide hckl
   have hcl0:(colK (strL s) es 0).length = 1:=by have:=congrArg List.length hc00;simpa using this
   clear hnd hes h25 hB5 hc00 hckl hl2 hcs
   go_loopw [5,6,30] (fun v p i wr => ∃ (k q:Nat),k ≤ s.size ∧ i = .int .i64 k ∧ p = .int .i64 q ∧ Hid (q = primK es k) ∧ Hid (wr.ownsRow w.heap.size 5 1 v (colK (strL s) es k).length (vby (colK (strL s) es k))) ∧ v.ownBlock ≠ some E ∧ Hid (Hi wr E es) ∧ Hid (RowKit.Below w.heap.size w wr) ∧ E < wr.heap.size) (fun _ _ i _ => s.size - (intOf i).toNat)
   case atStart => exact ⟨0,0,by omega,rfl,rfl,hide (by unfold primK;simp),hide (by rw [HC00.out,hcl0];exact HO5.out),hne5,HI5,HBB5,hE5b⟩
   case round =>
    clear HO2 HO5
    obtain ⟨k,q,hk,rfl,rfl,HQ,HO,hvE,HI,HB,hEw⟩:=hrel
    have hzz:=HB.out.size
    by_cases hlt:k < s.size
    · obtain ⟨x,hx⟩:∃ x,es[k]? = some x:=⟨es[k],List.getElem?_eq_getElem (by omega)⟩
      have hxs:=HES.out x (List.mem_of_getElem? hx)
      have hcx:=(HI.out k x hx).1
      have hcs:=colK_step (s:=strL s) hx
      have hps:=primK_step HND.out hx
      rcases Nat.eq_zero_or_pos x with h0 | h0
      · subst h0
        rw [if_pos rfl,List.append_nil] at hcs
        rw [if_pos rfl] at hps
        have HCS:=hide hcs
        have HPS:=hide hps
        clear hcs hps hx
        go_wp2_with fail
        go_roundw
        case rel => exact ⟨k + 1,k + 1,by omega,by go_num,by go_num,hide HPS.out.symm,hide (by rw [HCS.out];exact HO.out),hvE,HI,HB,hEw⟩
        case measure => simp [intOf];omega
      · obtain ⟨m,rfl⟩:∃ m,x = m + 1:=⟨x - 1,by omega⟩
        have hms:m < s.size:=by omega
        rw [if_neg (by omega),Nat.add_sub_cancel] at hcs
        rw [if_neg (by omega)] at hps
        obtain ⟨c,hc⟩:∃ c,c = byt s m:=⟨_,rfl⟩
        have hg:(strL s).getD m 0 = c:=by rw [List.getD_eq_getElem?_getD,strL_get hms,hc];rfl
        have hcm:(s[m]'hms).toNat = c:=by rw [hc,byt_of]
        rw [hg] at hcs
        have HCS:=hide hcs
        have HPS:=hide hps
        have hlen:=HCKL.out k
        clear hcs hps hx hc hg
        go_wp2_with (at_builtin;refine wpList_append_own_at _ rfl (.tmp 39) (.tmp 44) 38 rfl w.heap.size 5 i0 (.int .u8 0) 1 1 Tryz.underlying38 hi hz0 hz1 hz2 rfl (by decide) _ _ _ rfl (HO.out.alloc _) ⟨wr.heap.size,0,none⟩ 1 1 [.int .u8 c] rfl rfl (cell_one_new _ _ _) (by intro u hu;simp at hu;subst hu;rfl) (by unfold maxLen;omega) (by omega) (by simp;omega) ?_;intro v6 w6 hown6 hgr6 _ hat6)
        have hbe6:RowKit.Below w.heap.size w w6:=(HB.out.alloc (by omega) (.cells #[.int .u8 c] 5)).grown hgr6 (by simp;omega) (fun g hg => (HO.out.lt g hg).1)
        go_roundw
        case rel =>
         refine ⟨k + 1,q,by omega,by go_num,rfl,hide (by rw [HQ.out,HPS.out]),hide ?_, ?_,hide ?_,hide hbe6, ?_⟩
         · rw [HCS.out,List.length_append,vby,List.map_append]
           exact hown6
         · rcases hat6 with e | e
           · rw [e];exact hvE
           · rw [e];intro e2
             have:=Option.some.inj e2
             simp at this
             omega
         · intro i y hy
           have h1:=HI.out i y hy
           have hb:w6.heap[E]? = wr.heap[E]?:=(hgr6.block E (by simp;omega) (fun e => hvE e.symm)).trans (Below.heap_alloc wr _ E hEw)
           refine ⟨?_, ?_⟩
           · have:=h1.1
             unfold World.cell? at this ⊢
             rw [hb];exact this
           · have:=h1.2
             unfold World.frozen? at this ⊢
             rw [hb];exact this
         · have:=hgr6.size
           simp at this
           omega
        case measure => simp [intOf];omega
    · have hkn:k = s.size:=by omega
      have hcol:colK (strL s) es k = colL (strL s) es:=by
       rw [colL_filter HIE.out]
       unfold colK rowsL
       rw [List.take_of_length_le (by simp;omega)]
      have hprim:primK es k = primL (strL s) es:=by
       unfold primK primL rowsL
       have h0:0 ∈ es:=HIE.out.perm.mem_iff.2 (List.mem_range.2 (by rw [strL_length];omega))
       rw [List.take_of_length_le (by omega),if_pos h0,List.idxOf_cons,strL_length]
       have:(s.size == 0) = false:=beq_eq_false_iff_ne.2 (by omega)
       rw [this]
       rfl
      rw [hcol] at HO
      rw [hprim] at HQ
      subst hkn
      have HOr:=hide (own_form' HO.out)
      obtain ⟨A,cA,rfl,_⟩:=HOr.out
      have HRd:Hid (Rd wr wr.heap.size A (vby (colL (strL s) es))):=hide (by
       obtain ⟨A',c',e,hr⟩:=HOr.out
       cases e
       exact hr)
      have hcv2:=run_conv Tryz.prog wr 38 5 Tryz.underlying38 Tryz.underlying5 9 Tryz.underlying9 HRd.out cA
      clear hcol hprim
      go_wp2_with fail
      refine bodyPost_ret (v:=.tuple #[.string (strOf (colL (strL s) es)),.int .i64 q,.int .i64 0]) (by simp [results,Tryz.results20,go_sem]) rfl ?_
      exact ⟨es,HIE.out,by rw [HQ.out],HB.out⟩
def cnt1 (c:List Nat) (k:Nat):List Nat:=(List.range 257).map fun j => if j = 0 then 0 else (c.take k).count (j - 1)
def cnt2 (c:List Nat) (i:Nat):List Nat:=(List.range 257).map fun j => if j < i then c.countP (fun y => decide (y < j)) else c.count (j - 1)
def cnt3 (c:List Nat) (k:Nat):List Nat:=(List.range 257).map fun j => c.countP (fun y => decide (y < j)) + (c.take k).count j
def ints (l:List Nat):Array Value:=(l.map fun x:Nat => Value.int .i64 x).toArray
theorem ints_get (l:List Nat) (i:Nat) (h:i < l.length):(ints l)[i]? = some (.int .i64 (l.getD i 0:Nat)):=by
 unfold ints
 rw [List.getElem?_toArray,List.getElem?_map,List.getElem?_eq_getElem h,List.getD_eq_getElem?_getD,List.getElem?_eq_getElem h];rfl
theorem ints_set (l:List Nat) (i x:Nat):(ints l).setIfInBounds i (.int .i64 (x:Nat)) = ints (l.set i x):=by
 unfold ints
 rw [List.setIfInBounds_toArray,← List.map_set]
theorem rtab_get (f:Nat → Nat) {n j:Nat} (h:j < n):((List.range n).map f).getD j 0 = f j:=by
 rw [List.getD_eq_getElem?_getD,List.getElem?_map,List.getElem?_range h];rfl
theorem rtab_set {f g:Nat → Nat} {n i:Nat} (h:∀ j,j < n → g j = if i = j then g i else f j):((List.range n).map f).set i (g i) = (List.range n).map g:=by
 apply List.ext_getElem?
 intro j
 rw [List.getElem?_set]
 rcases Nat.lt_or_ge j n with hj | hj
 · by_cases e:i = j
   · subst e;rw [if_pos rfl,if_pos (by simpa using hj),List.getElem?_map,List.getElem?_range hj];rfl
   · rw [if_neg e,List.getElem?_map,List.getElem?_map,List.getElem?_range hj]
     have:=h j hj
     rw [if_neg e] at this
     simp [this]
 · rw [List.getElem?_eq_none (by simpa using hj)]
   split
   · rename_i e;subst e;rw [if_neg (by simp;omega),List.getElem?_eq_none (by simpa using hj)]
   · rw [List.getElem?_eq_none (by simpa using hj)]
theorem zero_tab (c:List Nat):Tryz.zeroCells238 = ints (cnt1 c 0):=by
 have:cnt1 c 0 = (List.range 257).map fun _ => 0:=by
  unfold cnt1
  apply List.map_congr_left
  intro j _
  simp
 have e:Tryz.zeroCells238 = ints ((List.range 257).map fun _ => 0):=by kernel_rfl
 rw [e,this]
theorem cnt1_step {c:List Nat} {k x:Nat} (h:c[k]? = some x) (hx:x < 256):(cnt1 c k).set (x + 1) ((cnt1 c k).getD (x + 1) 0 + 1) = cnt1 c (k + 1):=by
 have hg:(cnt1 c k).getD (x + 1) 0 + 1 = (fun j => if j = 0 then 0 else (c.take (k + 1)).count (j - 1)) (x + 1):=by
  unfold cnt1
  rw [rtab_get _ (by omega)]
  simp [List.take_add_one,h]
 rw [hg]
 unfold cnt1
 refine rtab_set (g:=fun j => if j = 0 then 0 else (c.take (k + 1)).count (j - 1)) (i:=x + 1) (fun j hj => ?_)
 by_cases e:x + 1 = j
 · rw [if_pos e];subst e;rfl
 · rw [if_neg e]
   by_cases e0:j = 0
   · simp [e0]
   · simp only [e0,if_false]
     rw [List.take_add_one,h,List.count_append]
     have:List.count (j - 1) (some x).toList = 0:=by
      rw [List.count_eq_zero];simp;omega
     omega
theorem countP_succ (c:List Nat) (i:Nat):c.countP (fun y => decide (y < i + 1)) = c.countP (fun y => decide (y < i)) + c.count i:=by
 induction c with
 | nil => rfl
 | cons z c ih =>
   rw [List.countP_cons,List.countP_cons,List.count_cons,ih]
   rcases Nat.lt_trichotomy z i with g | g | g
   · rw [if_pos (by simp;omega),if_pos (by simp;omega),if_neg (by simp;omega)];omega
   · rw [if_pos (by simp;omega),if_neg (by simp;omega),if_pos (by simp;omega)];omega
   · rw [if_neg (by simp;omega),if_neg (by simp;omega),if_neg (by simp;omega)];omega
theorem cnt2_start (c:List Nat):cnt1 c c.length = cnt2 c 1:=by
 unfold cnt1 cnt2
 apply List.map_congr_left
 intro j _
 rw [List.take_length]
 by_cases e:j = 0
 · subst e
   rw [if_pos rfl,if_pos (by omega)]
   symm
   rw [List.countP_eq_zero]
   intro y _;simp
 · rw [if_neg e,if_neg (by omega)]
theorem cnt2_step {c:List Nat} {i:Nat} (h1:1 ≤ i) (hi:i < 257):(cnt2 c i).set i ((cnt2 c i).getD i 0 + (cnt2 c i).getD (i - 1) 0) = cnt2 c (i + 1):=by
 have hg:(cnt2 c i).getD i 0 + (cnt2 c i).getD (i - 1) 0 = (fun j => if j < i + 1 then c.countP (fun y => decide (y < j)) else c.count (j - 1)) i:=by
  unfold cnt2
  rw [rtab_get _ hi,rtab_get _ (by omega),if_neg (by omega),if_pos (by omega)]
  simp only
  rw [if_pos (by omega)]
  have:=countP_succ c (i - 1)
  rw [show i - 1 + 1 = i by omega] at this
  omega
 rw [hg]
 unfold cnt2
 refine rtab_set (g:=fun j => if j < i + 1 then c.countP (fun y => decide (y < j)) else c.count (j - 1)) (i:=i) (fun j hj => ?_)
 by_cases e:i = j
 · rw [if_pos e];subst e;rfl
 · rw [if_neg e]
   by_cases e0:j < i
   · rw [if_pos (by omega),if_pos e0]
   · rw [if_neg (by omega),if_neg e0]
theorem cnt3_start (c:List Nat):cnt2 c 257 = cnt3 c 0:=by
 unfold cnt2 cnt3
 apply List.map_congr_left
 intro j hj
 rw [if_pos (List.mem_range.1 hj)]
 simp
theorem cnt3_step {c:List Nat} {k x:Nat} (h:c[k]? = some x) (hx:x < 256):(cnt3 c k).set x ((cnt3 c k).getD x 0 + 1) = cnt3 c (k + 1):=by
 have hg:(cnt3 c k).getD x 0 + 1 = (fun j => c.countP (fun y => decide (y < j)) + (c.take (k + 1)).count j) x:=by
  unfold cnt3
  rw [rtab_get _ (by omega)]
  simp [List.take_add_one,h]
  omega
 rw [hg]
 unfold cnt3
 refine rtab_set (g:=fun j => c.countP (fun y => decide (y < j)) + (c.take (k + 1)).count j) (i:=x) (fun j hj => ?_)
 by_cases e:x = j
 · rw [if_pos e];subst e;rfl
 · rw [if_neg e]
   rw [List.take_add_one,h,List.count_append]
   have:List.count j (some x).toList = 0:=by
    rw [List.count_eq_zero];simp;omega
   omega
theorem cnt3_row {c:List Nat} {k x:Nat} (h:c[k]? = some x) (hx:x < 256):1 + (cnt3 c k).getD x 0 = rowP c k:=by
 unfold cnt3 rowP
 rw [rtab_get _ (by omega),List.getD_eq_getElem?_getD,h]
 simp only [Option.getD_some]
 omega
theorem cnt_len (c:List Nat) (k:Nat):(cnt1 c k).length = 257 ∧ (cnt2 c k).length = 257 ∧ (cnt3 c k).length = 257:=by simp [cnt1,cnt2,cnt3]
theorem cnt1_le (c:List Nat) (k j:Nat) (h:j < 257):(cnt1 c k).getD j 0 ≤ c.length:=by
 unfold cnt1
 rw [rtab_get _ h]
 split
 · omega
 · have:=List.count_le_length (a:=j - 1) (l:=c.take k)
   rw [List.length_take] at this;omega
theorem cnt2_le (c:List Nat) (k j:Nat) (h:j < 257):(cnt2 c k).getD j 0 ≤ c.length:=by
 unfold cnt2
 rw [rtab_get _ h]
 split
 · exact List.countP_le_length
 · exact List.count_le_length
theorem cnt3_le (c:List Nat) (k j:Nat) (h:j < 257):(cnt3 c k).getD j 0 ≤ 2 * c.length:=by
 unfold cnt3
 rw [rtab_get _ h]
 have h1:=List.count_le_length (a:=j) (l:=c.take k)
 rw [List.length_take] at h1
 have h2:=List.countP_le_length (l:=c) (p:=fun y => decide (y < j))
 omega
theorem rows_step (f:Nat → Nat) (n k:Nat) (h:k < n):(((List.range k).map f ++ List.replicate (n - k) 0).set k (f k)) = (List.range (k + 1)).map f ++ List.replicate (n - (k + 1)) 0:=by
 rw [List.set_append_right _ _ (by simp),List.length_map,List.length_range,Nat.sub_self,show n - k = (n - (k + 1)) + 1 by omega,List.replicate_succ,List.set_cons_zero,List.range_succ,List.map_append,List.append_assoc]
 rfl
set_option maxHeartbeats 4000000 in
theorem rows_any (s:ByteArray) (w:World) (hs:s.size ≤ 4096) (h1:1 ≤ s.size) :
 Calls Tryz.prog 111 #[.string s] w fun e w' => ∃ g:Nat,e = .returned (.slice (some ⟨g,0,none⟩) s.size s.size) ∧ w.heap.size ≤ g ∧ Bk w' g 3 (ints ((List.range s.size).map (rowP (strL s)))) ∧ RowKit.Below w.heap.size w w':=by
 have hmk:∀ W:World,(Instr.makeSlice 74 (.int .i64 s.size) (.int .i64 s.size)).run Tryz.prog W = .ok (.slice (some ⟨W.heap.size,0,none⟩) s.size s.size) (W.alloc (.cells (madeCells #[.int .i64 0] s.size) 3)):=fun W => run_make_row' (P:=Tryz.prog) 74 3 (.int .i64 0) 8 Tryz.underlying74 info_int rfl .i64 .i64 s.size (by omega) (by omega) W
 have hz0:madeCells #[.int .i64 0] s.size = ints ((List.range 0).map (rowP (strL s)) ++ List.replicate (s.size - 0) 0):=by
  unfold ints
  apply Array.ext
  · simp [size_madeCells]
  · intro i h1 h2;simp [madeCells,Nat.mod_one]
 have HZ0:=hide hz0
 have HMK:=hide hmk
 clear hz0 hmk
 go_enter Tryz.func111,Tryz.ntmps111
 go_wp2_with fail
 go_loopw [11] (fun i wr => ∃ k:Nat,k ≤ s.size ∧ i = .int .i64 k ∧ Hid (Bk wr w.heap.size 238 (ints (cnt1 (strL s) k))) ∧ Hid (RowKit.Below w.heap.size w wr)) (fun i _ => s.size - (intOf i).toNat)
 case atStart => exact ⟨0,by omega,rfl,hide (by rw [← zero_tab];exact Bk.new w _ _),hide ((Below.refl _ _).alloc (Nat.le_refl _) _)⟩
 case round =>
  obtain ⟨k,hk,rfl,HB,HE⟩:=hrel
  by_cases hlt:k < s.size
  · obtain ⟨c,hc⟩:∃ c,c = byt s k:=⟨_,rfl⟩
    have hc256:c < 256:=by rw [hc];exact byt_lt s k
    have hcs:(s[k]'hlt).toNat = c:=by rw [hc,byt_of]
    have hst:=cnt1_step (c:=strL s) (k:=k) (x:=c) (by rw [hc];exact strL_get hlt) hc256
    have hle:=cnt1_le (strL s) k (c + 1) (by omega)
    rw [strL_length] at hle
    have hcc:wr.cell? ⟨w.heap.size,c + 1,none⟩ = some (.int .i64 ((cnt1 (strL s) k).getD (c + 1) 0:Nat)):=by
     rw [HB.out.cell,ints_get _ _ (by rw [(cnt_len _ _).1];omega)]
    have hfz:=HB.out.free (c + 1)
    obtain ⟨y,hy⟩:∃ y,y = (cnt1 (strL s) k).getD (c + 1) 0:=⟨_,rfl⟩
    rw [← hy] at hst hle hcc
    have HST:=hide hst
    clear hc hst hy
    go_wp2_with fail
    go_roundw
    case rel =>
     refine ⟨k + 1,by omega,by go_num,hide ?_,hide (HE.out.setCell (Nat.le_refl _) _)⟩
     have:=HB.out.set_ (c + 1) (.int .i64 ((y + 1:Nat):Int))
     rw [ints_set,HST.out] at this
     exact this
    case measure => simp [intOf];omega
  · have hkn:k = s.size:=by omega
    have HB1:Hid (Bk wr w.heap.size 238 (ints (cnt2 (strL s) 1))):=hide (by
     have:=HB.out
     rwa [hkn,← strL_length s,cnt2_start] at this)
    subst hkn
    clear HB
    go_wp2_with fail
    go_loopw [5] (fun i wx => ∃ k:Nat,1 ≤ k ∧ k ≤ 257 ∧ i = .int .i64 k ∧ Hid (Bk wx w.heap.size 238 (ints (cnt2 (strL s) k))) ∧ Hid (RowKit.Below w.heap.size w wx)) (fun i _ => 257 - (intOf i).toNat)
    case atStart => exact ⟨1,by omega,by omega,rfl,HB1,HE⟩
    case round =>
     clear HB1 HE
     obtain ⟨k,hk1,hk,rfl,HB,HE⟩:=hrel
     by_cases hlt2:k < 257
     · have hst:=cnt2_step (c:=strL s) hk1 hlt2
       have hle:=cnt2_le (strL s) k k hlt2
       have hle2:=cnt2_le (strL s) k (k - 1) (by omega)
       rw [strL_length] at hle hle2
       have hcc:wr.cell? ⟨w.heap.size,k,none⟩ = some (.int .i64 ((cnt2 (strL s) k).getD k 0:Nat)):=by
        rw [HB.out.cell,ints_get _ _ (by rw [(cnt_len _ _).2.1];omega)]
       have hcd:wr.cell? ⟨w.heap.size,k - 1,none⟩ = some (.int .i64 ((cnt2 (strL s) k).getD (k - 1) 0:Nat)):=by
        rw [HB.out.cell,ints_get _ _ (by rw [(cnt_len _ _).2.1];omega)]
       have hfz:=HB.out.free k
       obtain ⟨y,hy⟩:∃ y,y = (cnt2 (strL s) k).getD k 0:=⟨_,rfl⟩
       obtain ⟨z,hz⟩:∃ z,z = (cnt2 (strL s) k).getD (k - 1) 0:=⟨_,rfl⟩
       rw [← hy] at hst hle hcc
       rw [← hz] at hst hle2 hcd
       have HST:=hide hst
       clear hst hy hz
       obtain ⟨j,rfl⟩:∃ j,k = j + 1:=⟨k - 1,by omega⟩
       rw [Nat.add_sub_cancel] at hcd
       go_wp2_with fail
       go_region
       go_wp2_with fail
       go_roundw
       case rel =>
        refine ⟨j + 2,by omega,by omega,by go_num,hide ?_,hide ((HE.out.setCell (Nat.le_refl _) _).drew)⟩
        have:=(HB.out.set_ (j + 1) (.int .i64 ((y + z:Nat):Int))).drew
        rw [ints_set,HST.out] at this
        exact this
       case measure => simp [intOf];omega
     · obtain rfl:k = 257:=by omega
       have HB2:Hid (Bk wr w.heap.size 238 (ints (cnt3 (strL s) 0))):=hide (by
        have:=HB.out
        rwa [cnt3_start] at this)
       have hzw:=HB2.out.lt
       have hmk:=HMK.out wr
       clear HB
       go_wp2_with fail
       clear hmk
       go_loopw [42] (fun i wy => ∃ k:Nat,k ≤ s.size ∧ i = .int .i64 k ∧ Hid (Bk wy w.heap.size 238 (ints (cnt3 (strL s) k))) ∧ Hid (Bk wy wr.heap.size 3 (ints ((List.range k).map (rowP (strL s)) ++ List.replicate (s.size - k) 0))) ∧ Hid (RowKit.Below w.heap.size w wy)) (fun i _ => s.size - (intOf i).toNat)
       case atStart => exact ⟨0,by omega,rfl,hide (HB2.out.alloc _),hide (by rw [← HZ0.out];exact Bk.new wr _ _),hide (HE.out.alloc (by omega) _)⟩
       case round =>
        clear HB2 HE HZ0 HMK
        rename World => wq
        obtain ⟨k,hk,rfl,HB,HR,HE⟩:=hrel
        by_cases hlt3:k < s.size
        · obtain ⟨c,hc⟩:∃ c,c = byt s k:=⟨_,rfl⟩
          have hc256:c < 256:=by rw [hc];exact byt_lt s k
          have hcs:(s[k]'hlt3).toNat = c:=by rw [hc,byt_of]
          have hget:(strL s)[k]? = some c:=by rw [hc];exact strL_get hlt3
          have hst:=cnt3_step (c:=strL s) hget hc256
          have hrw:=cnt3_row (c:=strL s) hget hc256
          have hle:=cnt3_le (strL s) k c (by omega)
          rw [strL_length] at hle
          have hcc:wq.cell? ⟨w.heap.size,c,none⟩ = some (.int .i64 ((cnt3 (strL s) k).getD c 0:Nat)):=by
           rw [HB.out.cell,ints_get _ _ (by rw [(cnt_len _ _).2.2];omega)]
          have hfz:=HB.out.free c
          have hlen:((List.range k).map (rowP (strL s)) ++ List.replicate (s.size - k) 0).length = s.size:=by simp;omega
          have hcr:∃ u,wq.cell? ⟨wr.heap.size,k,none⟩ = some u:=⟨_,by rw [HR.out.cell,ints_get _ _ (by omega)]⟩
          obtain ⟨u,hcu⟩:=hcr
          have hfu:=HR.out.free k
          obtain ⟨y,hy⟩:∃ y,y = (cnt3 (strL s) k).getD c 0:=⟨_,rfl⟩
          rw [← hy] at hst hle hcc hrw
          have HST:=hide hst
          have HRW:=hide hrw
          have hnb:wr.heap.size ≠ w.heap.size:=by omega
          have hcc2:(wq.setCell ⟨wr.heap.size,k,none⟩ (.int .i64 (1 + (y:Int)))).cell? ⟨w.heap.size,c,none⟩ = some (.int .i64 (y:Nat)):=by rw [World.cell?_setCell_other _ _ _ _ (by intro e;simp only [Addr.mk.injEq] at e;omega)];exact hcc
          have hfz2:(wq.setCell ⟨wr.heap.size,k,none⟩ (.int .i64 (1 + (y:Int)))).frozen? ⟨w.heap.size,c,none⟩ = false:=by
           have:=(HB.out.far (p:=⟨wr.heap.size,k,none⟩) (by show w.heap.size ≠ wr.heap.size;omega) (.int .i64 (1 + (y:Int)))).free c
           exact this
          clear hc hst hy hget hrw hlen
          go_wp2_with fail
          go_roundw
          case rel =>
           refine ⟨k + 1,by omega,by go_num,hide ?_,hide ?_,hide ((HE.out.setCell (by show w.heap.size ≤ wr.heap.size;omega) _).setCell (Nat.le_refl _) _)⟩
           · have:=(HB.out.far (p:=⟨wr.heap.size,k,none⟩) (by show w.heap.size ≠ wr.heap.size;omega) (.int .i64 (1 + (y:Int)))).set_ c (.int .i64 ((y + 1:Nat):Int))
             rw [ints_set,HST.out] at this
             exact this
           · have:=(HR.out.set_ k (.int .i64 ((1 + y:Nat):Int))).far (p:=⟨w.heap.size,c,none⟩) (by show wr.heap.size ≠ w.heap.size;omega) (.int .i64 ((y + 1:Nat):Int))
             have e:=rows_step (rowP (strL s)) s.size k hlt3
             rw [← HRW.out] at e
             rw [ints_set,e] at this
             exact this
          case measure => simp [intOf];omega
        · obtain rfl:k = s.size:=by omega
          have HF:Hid (Bk wq wr.heap.size 3 (ints ((List.range s.size).map (rowP (strL s))))):=hide (by
           have:=HR.out
           rwa [Nat.sub_self,List.replicate_zero,List.append_nil] at this)
          clear HR
          go_wp2_with fail
          go_ret
          exact ⟨wr.heap.size,rfl,by omega,HF.out,HE.out⟩
def textB (c:List Nat) (p:Nat):Option (List Nat):=if c = [] ∧ p = 0 then some [] else if p < 1 ∨ c.length < p then none else textW c p c.length 0 []
def textV (c:List Nat) (p:Nat):Value:=match textB c p with
 | some t => .tuple #[.string (strOf t),.int .i64 0]
 | none => .tuple #[.string ⟨#[]⟩,.int .i64 7]
theorem textV_some {c t:List Nat} {p:Nat} (h:textB c p = some t):textV c p = .tuple #[.string (strOf t),.int .i64 0]:=by unfold textV;rw [h]
theorem textV_none {c:List Nat} {p:Nat} (h:textB c p = none):textV c p = .tuple #[.string ⟨#[]⟩,.int .i64 7]:=by unfold textV;rw [h]
set_option maxHeartbeats 4000000 in
theorem text_any (s:ByteArray) (p:Nat) (w:World) (hs:s.size ≤ 4096) (hp:p < 4611686018427387904) :
 Calls Tryz.prog 75 #[.string s,.int .i64 p] w fun e w' => e = .returned (textV (strL s) p) ∧ RowKit.Below w.heap.size w w':=by
 have d0:decide ((4096:Int) < (s.size:Int)) = false:=decide_eq_false (by omega)
 rcases Nat.eq_zero_or_pos s.size with h0 | hn
 · have:=size_zero h0
   subst this
   rcases Nat.eq_zero_or_pos p with hp0 | hp0
   · subst hp0
     go_enter Tryz.func75,Tryz.ntmps75
     go_wp2_with fail
     refine bodyPost_ret (v:=.tuple #[.string ⟨#[]⟩,.int .i64 0]) (by simp [results,Tryz.results75,go_sem]) rfl ?_
     exact ⟨rfl,Below.refl _ _⟩
   · have e:textV (strL ⟨#[]⟩) p = .tuple #[.string ⟨#[]⟩,.int .i64 7]:=textV_none (by
      unfold textB
      rw [if_neg (by omega),if_pos (.inr (by simp [strL,ByteArray.size];omega))])
     have dp:decide ((p:Int) = 0) = false:=decide_eq_false (by omega)
     have dq:decide ((p:Int) < 1) = false:=decide_eq_false (by omega)
     have hE:=hide e
     clear e
     go_enter Tryz.func75,Tryz.ntmps75
     go_wp2_with fail
     refine bodyPost_ret (v:=.tuple #[.string ⟨#[]⟩,.int .i64 7]) (by simp [results,Tryz.results75,go_sem]) rfl ?_
     exact ⟨by rw [hE.out],Below.refl _ _⟩
 · have hne:¬ s = ByteArray.empty:=by rintro rfl;simp at hn
   by_cases hbad:p < 1 ∨ s.size < p
   · have e:textV (strL s) p = .tuple #[.string ⟨#[]⟩,.int .i64 7]:=textV_none (by
      unfold textB
      have h3:¬ (strL s = [] ∧ p = 0):=fun g => by
       have:=congrArg List.length g.1
       rw [strL_length] at this
       simp only [List.length_nil] at this
       omega
      rw [if_neg h3,if_pos (by rw [strL_length];exact hbad)])
     have hE:=hide e
     clear e
     rcases Nat.eq_zero_or_pos p with hp0 | hp0
     · subst hp0
       clear hbad
       go_enter Tryz.func75,Tryz.ntmps75
       go_wp2_with fail
       refine bodyPost_ret (v:=.tuple #[.string ⟨#[]⟩,.int .i64 7]) (by simp [results,Tryz.results75,go_sem]) rfl ?_
       exact ⟨by rw [hE.out],Below.refl _ _⟩
     · have hgt:s.size < p:=by omega
       have hp1:(1:Int) ≤ (p:Int):=by omega
       clear hbad
       go_enter Tryz.func75,Tryz.ntmps75
       go_wp2_with fail
       refine bodyPost_ret (v:=.tuple #[.string ⟨#[]⟩,.int .i64 7]) (by simp [results,Tryz.results75,go_sem]) rfl ?_
       exact ⟨by rw [hE.out],Below.refl _ _⟩
   · have hp1:1 ≤ p:=by omega
     have hpn:p ≤ s.size:=by omega
     have e:textB (strL s) p = textW (strL s) p s.size 0 []:=by
      unfold textB
      rw [if_neg (by omega),if_neg (by rw [strL_length];exact hbad),strL_length]
     have hE:=hide e
     have hp1i:(1:Int) ≤ (p:Int):=by omega
     have hpn2:¬ s.size < p:=by omega
     clear e hbad
     have hmk:∀ W:World,(Instr.makeSlice 38 (.int .i64 s.size) (.int .i64 s.size)).run Tryz.prog W = .ok (.slice (some ⟨W.heap.size,0,none⟩) s.size s.size) (W.alloc (.cells (madeCells #[.int .u8 0] s.size) 5)):=fun W => run_make_row' (P:=Tryz.prog) 38 5 (.int .u8 0) 1 Tryz.underlying38 info_u8 rfl .i64 .i64 s.size (by omega) (by omega) W
     have hz0:madeCells #[.int .u8 0] s.size = (vby (List.replicate s.size 0 ++ [])).toArray:=by
      apply Array.ext
      · simp [size_madeCells]
      · intro i h1 h2;simp [madeCells,Nat.mod_one,vby]
     have HZ0:=hide hz0
     clear hz0
     go_enter Tryz.func75,Tryz.ntmps75
     go_wp2_with (go_at_call 111;refine (rows_any s w hs hn).mono ?_;rintro e w1 ⟨g,rfl,hg,hB,hbe⟩;have HB:=hide hB;have HBE:=hide hbe;have hg1:=hB.lt;clear hB hbe)
     clear hmk
     have HB1:Hid (Bk (w1.alloc (.cells (madeCells #[.int .u8 0] s.size) 5)) g 3 (ints ((List.range s.size).map (rowP (strL s))))):=hide (HB.out.alloc _)
     have hzw:=HBE.out.size
     go_loopw [9,10] (fun vr vi wr => ∃ (k r:Nat) (acc:List Nat),k ≤ s.size ∧ vr = .int .i64 r ∧ vi = .int .i64 ((k:Int) - 1) ∧ r ≤ s.size ∧ acc.length + k = s.size ∧ Hid (textW (strL s) p k r acc = textW (strL s) p s.size 0 []) ∧ Hid (Bk wr w1.heap.size 5 (vby (List.replicate k 0 ++ acc)).toArray) ∧ Hid (Bk wr g 3 (ints ((List.range s.size).map (rowP (strL s))))) ∧ Hid (RowKit.Below w.heap.size w wr)) (fun _ vi _ => (intOf vi + 1).toNat)
     case atStart => exact ⟨s.size,0,[],by omega,rfl,rfl,by omega,by simp,hide rfl,hide (by rw [← HZ0.out];exact Bk.new w1 _ _),HB1,hide (HBE.out.alloc (by omega) _)⟩
     case round =>
      clear HB HB1 HZ0
      obtain ⟨k,r,acc,hk,rfl,rfl,hr,hal,HT,HO,HR,HE⟩:=hrel
      rcases Nat.eq_zero_or_pos k with hk0 | hk0
      · subst hk0
        by_cases hrp:r = p
        · have hres:textV (strL s) p = .tuple #[.string (strOf acc),.int .i64 0]:=textV_some (by rw [hE.out,← HT.out,textW,if_pos hrp])
          have HRS:=hide hres
          have hcv2:=run_conv Tryz.prog wr 38 5 Tryz.underlying38 Tryz.underlying5 9 Tryz.underlying9 (B:=wr.heap.size) (A:=some ⟨w1.heap.size,0,none⟩) (l:=acc) (fun i u hu => ⟨w1.heap.size,0,rfl,HO.out.lt,by rw [Nat.zero_add,HO.out.cell i,List.getElem?_toArray];exact hu⟩) s.size
          have hal2:acc.length = s.size:=by omega
          rw [hal2] at hcv2
          subst hrp
          clear hres
          go_wp2_with fail
          refine bodyPost_ret (v:=.tuple #[.string (strOf acc),.int .i64 0]) (by simp [results,Tryz.results75,go_sem]) rfl ?_
          exact ⟨by rw [HRS.out],HE.out⟩
        · have hres:textV (strL s) p = .tuple #[.string ⟨#[]⟩,.int .i64 7]:=textV_none (by rw [hE.out,← HT.out,textW,if_neg hrp])
          have HRS:=hide hres
          have hrp2:¬ (r:Int) = (p:Int):=by omega
          clear hres
          go_wp2_with fail
          refine bodyPost_ret (v:=.tuple #[.string ⟨#[]⟩,.int .i64 7]) (by simp [results,Tryz.results75,go_sem]) rfl ?_
          exact ⟨by rw [HRS.out],HE.out⟩
      · obtain ⟨m,rfl⟩:∃ m,k = m + 1:=⟨k - 1,by omega⟩
        by_cases hrp:r = p
        · have hres:textV (strL s) p = .tuple #[.string ⟨#[]⟩,.int .i64 7]:=textV_none (by rw [hE.out,← HT.out,textW,if_pos hrp])
          have HRS:=hide hres
          subst hrp
          clear hres
          go_wp2_with fail
          refine bodyPost_ret (v:=.tuple #[.string ⟨#[]⟩,.int .i64 7]) (by simp [results,Tryz.results75,go_sem]) rfl ?_
          exact ⟨by rw [HRS.out],HE.out⟩
        · have hrp2:¬ (r:Int) = (p:Int):=by omega
          obtain ⟨j,hj⟩:∃ j,j = atR p r:=⟨_,rfl⟩
          have hjs:j < s.size:=by rw [hj];unfold atR;split <;> omega
          obtain ⟨c,hc⟩:∃ c,c = byt s j:=⟨_,rfl⟩
          have hcs:(s[j]'hjs).toNat = c:=by rw [hc,byt_of]
          obtain ⟨q,hq⟩:∃ q,q = rowP (strL s) j:=⟨_,rfl⟩
          have hqn:q ≤ s.size:=by rw [hq];have:=rowP_le (c:=strL s) (i:=j) (by rw [strL_length];exact hjs);rwa [strL_length] at this
          have HTN:Hid (textW (strL s) p m q (c :: acc) = textW (strL s) p s.size 0 []):=hide (by
           rw [← HT.out,textW,if_neg hrp,← hj,← hq]
           rw [List.getD_eq_getElem?_getD,strL_get hjs,← hc];rfl)
          have hcr:wr.cell? ⟨g,j,none⟩ = some (.int .i64 (q:Nat)):=by
           rw [HR.out.cell,ints_get _ _ (by simpa using hjs),rtab_get _ hjs,hq]
          have hcu:∃ u,wr.cell? ⟨w1.heap.size,m,none⟩ = some u:=by
           rw [HO.out.cell,List.getElem?_toArray,List.getElem?_eq_getElem (by rw [vby_length];simp;omega)];exact ⟨_,rfl⟩
          obtain ⟨u,hcu⟩:=hcu
          have hfu:=HO.out.free m
          have HON:Hid (Bk (wr.setCell ⟨w1.heap.size,m,none⟩ (.int .u8 c)) w1.heap.size 5 (vby (List.replicate m 0 ++ c :: acc)).toArray):=hide (by
           have:=HO.out.set_ m (.int .u8 (c:Nat))
           rw [List.setIfInBounds_toArray] at this
           have e:(vby (List.replicate (m + 1) 0 ++ acc)).set m (.int .u8 (c:Nat)) = vby (List.replicate m 0 ++ c :: acc):=by
            unfold vby
            rw [← List.map_set,List.replicate_succ',List.append_assoc,List.set_append_right _ _ (by simp)]
            simp
           rw [e] at this
           exact this)
          have HRN:Hid (Bk (wr.setCell ⟨w1.heap.size,m,none⟩ (.int .u8 c)) g 3 (ints ((List.range s.size).map (rowP (strL s))))):=hide (HR.out.far (p:=⟨w1.heap.size,m,none⟩) (by show g ≠ w1.heap.size;omega) _)
          have HEN:Hid (RowKit.Below w.heap.size w (wr.setCell ⟨w1.heap.size,m,none⟩ (.int .u8 c))):=hide (HE.out.setCell (by show w.heap.size ≤ w1.heap.size;omega) _)
          by_cases hpr:p < r
          · have hj2:r = j + 1:=by rw [hj];unfold atR;rw [if_pos hpr];omega
            subst hj2
            clear hc hq hj HT HO HR HE
            go_wp2_with fail
            go_region
            go_wp2_with fail
            go_roundw
            case rel => exact ⟨m,q,c :: acc,by omega,rfl,by go_num,hqn,by simp;omega,HTN,hide HON.out.drew,hide HRN.out.drew,hide HEN.out.drew⟩
            case measure => simp [intOf]
          · have hj2:j = r:=by rw [hj];unfold atR;rw [if_neg hpr]
            subst hj2
            have hpr2:¬ (p:Int) < (j:Int):=by omega
            clear hc hq hj HT HO HR HE
            go_wp2_with fail
            go_region
            go_wp2_with fail
            go_roundw
            case rel => exact ⟨m,q,c :: acc,by omega,rfl,by go_num,hqn,by simp;omega,HTN,hide HON.out.drew,hide HRN.out.drew,hide HEN.out.drew⟩
            case measure => simp [intOf]
open Go.RowKit
def markL:List Nat:=[87,82,71,49]
structure Hd where
 cnt:Nat
 prim:Nat
 sum:Nat
 segs:Nat
 bits:Nat
def frontL (h:Hd):List Nat:=markL ++ five h.cnt ++ five h.prim ++ tail4 h.sum ++ five h.segs ++ five h.bits
theorem frontL_length (h:Hd):(frontL h).length = 28:=rfl
theorem frontL_lt (h:Hd):∀ x ∈ frontL h,x < 256:=by
 intro x hx
 simp only [frontL,List.mem_append] at hx
 rcases hx with ((((hx | hx) | hx) | hx) | hx) | hx
 · simp [markL] at hx;omega
 · exact five_lt _ x hx
 · exact five_lt _ x hx
 · exact tail4_lt _ x hx
 · exact five_lt _ x hx
 · exact five_lt _ x hx
def sealL (h:Hd) (b:List Nat):List Nat:=(frontL h ++ b) ++ tail4 (crcS (frontL h ++ b))
theorem sealL_length (h:Hd) (b:List Nat):(sealL h b).length = b.length + 32:=by
 unfold sealL
 rw [List.length_append,List.length_append,frontL_length]
 show 28 + b.length + 4 = _
 omega
def sum4 (l:List Nat):Nat:=l.getD 0 0 + 256 * l.getD 1 0 + 65536 * l.getD 2 0 + 16777216 * l.getD 3 0
theorem sum4_tail {n:Nat} (h:n < 4294967296):sum4 (tail4 n) = n:=by
 simp only [sum4,tail4,List.getD_cons_zero,List.getD_cons_succ];omega
theorem tail4_sum {a b c d:Nat} (ha:a < 256) (hb:b < 256) (hc:c < 256) (hd:d < 256):tail4 (sum4 [a,b,c,d]) = [a,b,c,d]:=by
 simp only [sum4,tail4,List.getD_cons_zero,List.getD_cons_succ,List.cons.injEq,and_true];omega
def fieldsL (s:List Nat):Hd:=⟨ofB ((s.drop 4).take 5),ofB ((s.drop 9).take 5),sum4 ((s.drop 14).take 4),ofB ((s.drop 18).take 5),ofB ((s.drop 23).take 5)⟩
theorem fields_front {h:Hd} (r:List Nat) (h1:h.cnt < 1099511627776) (h2:h.prim < 1099511627776) (h3:h.sum < 4294967296) (h4:h.segs < 1099511627776) (h5:h.bits < 1099511627776):fieldsL (frontL h ++ r) = h:=by
 obtain ⟨c,p,u,g,b⟩:=h
 show Hd.mk (ofB (five c)) (ofB (five p)) (sum4 (tail4 u)) (ofB (five g)) (ofB (five b)) = _
 rw [ofB_five h1,ofB_five h2,sum4_tail h3,ofB_five h4,ofB_five h5]
def headW (s:List Nat):Int:=if s.length < 32 then 5 else if 65536 < s.length then 1 else if s.take 4 ≠ markL then 2 else if tail4 (crcS (s.take (s.length - 4))) ≠ s.drop (s.length - 4) then 6 else 0
theorem headW_zero {s:List Nat} (h:headW s = 0):32 ≤ s.length ∧ s.length ≤ 65536 ∧ s.take 4 = markL ∧ tail4 (crcS (s.take (s.length - 4))) = s.drop (s.length - 4):=by
 unfold headW at h
 split at h
 · omega
 split at h
 · omega
 split at h
 · omega
 split at h
 · omega
 rename_i g1 g2 g3 g4
 exact ⟨by omega,by omega,Decidable.not_not.1 g3,Decidable.not_not.1 g4⟩
theorem headW_seal {h:Hd} {b:List Nat} (hl:b.length ≤ 65504):headW (sealL h b) = 0:=by
 have hn:=sealL_length h b
 have hk:(sealL h b).length - 4 = (frontL h ++ b).length:=by rw [hn,List.length_append,frontL_length];omega
 unfold headW
 rw [if_neg (by omega),if_neg (by omega),hk]
 have e1:(sealL h b).take (frontL h ++ b).length = frontL h ++ b:=by unfold sealL;rw [List.take_left]
 have e2:(sealL h b).drop (frontL h ++ b).length = tail4 (crcS (frontL h ++ b)):=by unfold sealL;rw [List.drop_left]
 rw [if_neg (by intro e;exact e rfl),e1,e2,if_neg (by intro e;exact e rfl)]
theorem long {l:List Nat} {n:Nat} (h:n + 1 ≤ l.length):∃ a r,l = a :: r ∧ n ≤ r.length:=by
 cases l with
 | nil => simp at h
 | cons a r => exact ⟨a,r,rfl,by simpa using h⟩
theorem bits_back (s:List Nat) (h:28 ≤ s.length) (hb:∀ x ∈ s,x < 256) (hm:s.take 4 = markL):s = frontL (fieldsL s) ++ s.drop 28:=by
 obtain ⟨a0,r0,rfl,h0⟩:=long (n:=27) (l:=s) (by omega)
 obtain ⟨a1,r1,rfl,h1⟩:=long (n:=26) (l:=r0) (by omega)
 obtain ⟨a2,r2,rfl,h2⟩:=long (n:=25) (l:=r1) (by omega)
 obtain ⟨a3,r3,rfl,h3⟩:=long (n:=24) (l:=r2) (by omega)
 obtain ⟨a4,r4,rfl,h4⟩:=long (n:=23) (l:=r3) (by omega)
 obtain ⟨a5,r5,rfl,h5⟩:=long (n:=22) (l:=r4) (by omega)
 obtain ⟨a6,r6,rfl,h6⟩:=long (n:=21) (l:=r5) (by omega)
 obtain ⟨a7,r7,rfl,h7⟩:=long (n:=20) (l:=r6) (by omega)
 obtain ⟨a8,r8,rfl,h8⟩:=long (n:=19) (l:=r7) (by omega)
 obtain ⟨a9,r9,rfl,h9⟩:=long (n:=18) (l:=r8) (by omega)
 obtain ⟨a10,r10,rfl,h10⟩:=long (n:=17) (l:=r9) (by omega)
 obtain ⟨a11,r11,rfl,h11⟩:=long (n:=16) (l:=r10) (by omega)
 obtain ⟨a12,r12,rfl,h12⟩:=long (n:=15) (l:=r11) (by omega)
 obtain ⟨a13,r13,rfl,h13⟩:=long (n:=14) (l:=r12) (by omega)
 obtain ⟨a14,r14,rfl,h14⟩:=long (n:=13) (l:=r13) (by omega)
 obtain ⟨a15,r15,rfl,h15⟩:=long (n:=12) (l:=r14) (by omega)
 obtain ⟨a16,r16,rfl,h16⟩:=long (n:=11) (l:=r15) (by omega)
 obtain ⟨a17,r17,rfl,h17⟩:=long (n:=10) (l:=r16) (by omega)
 obtain ⟨a18,r18,rfl,h18⟩:=long (n:=9) (l:=r17) (by omega)
 obtain ⟨a19,r19,rfl,h19⟩:=long (n:=8) (l:=r18) (by omega)
 obtain ⟨a20,r20,rfl,h20⟩:=long (n:=7) (l:=r19) (by omega)
 obtain ⟨a21,r21,rfl,h21⟩:=long (n:=6) (l:=r20) (by omega)
 obtain ⟨a22,r22,rfl,h22⟩:=long (n:=5) (l:=r21) (by omega)
 obtain ⟨a23,r23,rfl,h23⟩:=long (n:=4) (l:=r22) (by omega)
 obtain ⟨a24,r24,rfl,h24⟩:=long (n:=3) (l:=r23) (by omega)
 obtain ⟨a25,r25,rfl,h25⟩:=long (n:=2) (l:=r24) (by omega)
 obtain ⟨a26,r26,rfl,h26⟩:=long (n:=1) (l:=r25) (by omega)
 obtain ⟨a27,r27,rfl,h27⟩:=long (n:=0) (l:=r26) (by omega)
 have hx:∀ x ∈ [a0,a1,a2,a3,a4,a5,a6,a7,a8,a9,a10,a11,a12,a13,a14,a15,a16,a17,a18,a19,a20,a21,a22,a23,a24,a25,a26,a27],x < 256:=fun x hx => hb x (List.mem_append_left r27 hx)
 clear hb h0 h1 h2 h3 h4 h5 h6 h7 h8 h9 h10 h11 h12 h13 h14 h15 h16 h17 h18 h19 h20 h21 h22 h23 h24 h25 h26 h27
 simp only [List.mem_cons,List.not_mem_nil,or_false,forall_eq_or_imp,forall_eq] at hx
 obtain ⟨x0,x1,x2,x3,x4,x5,x6,x7,x8,x9,x10,x11,x12,x13,x14,x15,x16,x17,x18,x19,x20,x21,x22,x23,x24,x25,x26,x27⟩:=hx
 have hm2:[a0,a1,a2,a3] = markL:=hm
 show _ = (markL ++ five (ofB [a4,a5,a6,a7,a8]) ++ five (ofB [a9,a10,a11,a12,a13]) ++ tail4 (sum4 [a14,a15,a16,a17]) ++ five (ofB [a18,a19,a20,a21,a22]) ++ five (ofB [a23,a24,a25,a26,a27])) ++ r27
 rw [← hm2,five_ofB x4 x5 x6 x7 x8,five_ofB x9 x10 x11 x12 x13,tail4_sum x14 x15 x16 x17,five_ofB x18 x19 x20 x21 x22,five_ofB x23 x24 x25 x26 x27]
 rfl
theorem seal_back {s:List Nat} (hb:∀ x ∈ s,x < 256) (h:headW s = 0):s = sealL (fieldsL s) ((s.drop 28).take (s.length - 32)):=by
 obtain ⟨h1,h2,h3,h4⟩:=headW_zero h
 have e:=bits_back s (by omega) hb h3
 have e1:s.take (s.length - 4) = frontL (fieldsL s) ++ (s.drop 28).take (s.length - 32):=by
  obtain ⟨n,hn⟩:∃ n,n = s.length:=⟨_,rfl⟩
  rw [← hn]
  conv => lhs;rw [e]
  rw [List.take_append,frontL_length,List.take_of_length_le (by rw [frontL_length];omega)]
  congr 2
 unfold sealL
 rw [← e1,h4,List.take_append_drop]
theorem fields_lt {s:List Nat} (hb:∀ x ∈ s,x < 256) (h:28 ≤ s.length):(fieldsL s).cnt < 1099511627776 ∧ (fieldsL s).prim < 1099511627776 ∧ (fieldsL s).sum < 4294967296 ∧ (fieldsL s).segs < 1099511627776 ∧ (fieldsL s).bits < 1099511627776:=by
 obtain ⟨a0,r0,rfl,h0⟩:=long (n:=27) (l:=s) (by omega)
 obtain ⟨a1,r1,rfl,h1⟩:=long (n:=26) (l:=r0) (by omega)
 obtain ⟨a2,r2,rfl,h2⟩:=long (n:=25) (l:=r1) (by omega)
 obtain ⟨a3,r3,rfl,h3⟩:=long (n:=24) (l:=r2) (by omega)
 obtain ⟨a4,r4,rfl,h4⟩:=long (n:=23) (l:=r3) (by omega)
 obtain ⟨a5,r5,rfl,h5⟩:=long (n:=22) (l:=r4) (by omega)
 obtain ⟨a6,r6,rfl,h6⟩:=long (n:=21) (l:=r5) (by omega)
 obtain ⟨a7,r7,rfl,h7⟩:=long (n:=20) (l:=r6) (by omega)
 obtain ⟨a8,r8,rfl,h8⟩:=long (n:=19) (l:=r7) (by omega)
 obtain ⟨a9,r9,rfl,h9⟩:=long (n:=18) (l:=r8) (by omega)
 obtain ⟨a10,r10,rfl,h10⟩:=long (n:=17) (l:=r9) (by omega)
 obtain ⟨a11,r11,rfl,h11⟩:=long (n:=16) (l:=r10) (by omega)
 obtain ⟨a12,r12,rfl,h12⟩:=long (n:=15) (l:=r11) (by omega)
 obtain ⟨a13,r13,rfl,h13⟩:=long (n:=14) (l:=r12) (by omega)
 obtain ⟨a14,r14,rfl,h14⟩:=long (n:=13) (l:=r13) (by omega)
 obtain ⟨a15,r15,rfl,h15⟩:=long (n:=12) (l:=r14) (by omega)
 obtain ⟨a16,r16,rfl,h16⟩:=long (n:=11) (l:=r15) (by omega)
 obtain ⟨a17,r17,rfl,h17⟩:=long (n:=10) (l:=r16) (by omega)
 obtain ⟨a18,r18,rfl,h18⟩:=long (n:=9) (l:=r17) (by omega)
 obtain ⟨a19,r19,rfl,h19⟩:=long (n:=8) (l:=r18) (by omega)
 obtain ⟨a20,r20,rfl,h20⟩:=long (n:=7) (l:=r19) (by omega)
 obtain ⟨a21,r21,rfl,h21⟩:=long (n:=6) (l:=r20) (by omega)
 obtain ⟨a22,r22,rfl,h22⟩:=long (n:=5) (l:=r21) (by omega)
 obtain ⟨a23,r23,rfl,h23⟩:=long (n:=4) (l:=r22) (by omega)
 obtain ⟨a24,r24,rfl,h24⟩:=long (n:=3) (l:=r23) (by omega)
 obtain ⟨a25,r25,rfl,h25⟩:=long (n:=2) (l:=r24) (by omega)
 obtain ⟨a26,r26,rfl,h26⟩:=long (n:=1) (l:=r25) (by omega)
 obtain ⟨a27,r27,rfl,h27⟩:=long (n:=0) (l:=r26) (by omega)
 have hx:∀ x ∈ [a0,a1,a2,a3,a4,a5,a6,a7,a8,a9,a10,a11,a12,a13,a14,a15,a16,a17,a18,a19,a20,a21,a22,a23,a24,a25,a26,a27],x < 256:=fun x hx => hb x (List.mem_append_left r27 hx)
 clear hb h h0 h1 h2 h3 h4 h5 h6 h7 h8 h9 h10 h11 h12 h13 h14 h15 h16 h17 h18 h19 h20 h21 h22 h23 h24 h25 h26 h27
 simp only [List.mem_cons,List.not_mem_nil,or_false,forall_eq_or_imp,forall_eq] at hx
 obtain ⟨x0,x1,x2,x3,x4,x5,x6,x7,x8,x9,x10,x11,x12,x13,x14,x15,x16,x17,x18,x19,x20,x21,x22,x23,x24,x25,x26,x27⟩:=hx
 refine ⟨ofB_lt x4 x5 x6 x7 x8,ofB_lt x9 x10 x11 x12 x13, ?_,ofB_lt x18 x19 x20 x21 x22,ofB_lt x23 x24 x25 x26 x27⟩
 show sum4 [a14,a15,a16,a17] < _
 simp only [sum4,List.getD_cons_zero,List.getD_cons_succ];omega
def Opened (s t:List Nat):Prop :=
 headW s = 0 ∧ (fieldsL s).bits ≤ 1048576 ∧ rightB (strOf ((s.drop 28).take (s.length - 32))) (fieldsL s).bits = true ∧ (fieldsL s).segs ≤ 65536 ∧
 ∃ c,backR (strOf ((s.drop 28).take (s.length - 32))) (fieldsL s).bits (fieldsL s).segs freshL 0 [] = (0,c) ∧ c.length = (fieldsL s).cnt ∧ c.length ≤ 4096 ∧ textB c (fieldsL s).prim = some t ∧ crcS t = (fieldsL s).sum
def Built (t s:List Nat):Prop:=∃ (es:List Nat) (b:ByteArray) (N:Nat),IsEnds t es ∧ Bs b N (allL (colL t es)) ∧ s = sealL ⟨t.length,primL t es,crcS t,segsN t.length,N⟩ (strL b)
theorem colL_lt {t es:List Nat} (ht:∀ x ∈ t,x < 256):∀ x ∈ colL t es,x < 256:=fun x hx => by
 obtain ⟨k,_,rfl⟩:=List.mem_map.1 hx
 rw [List.getD_eq_getElem?_getD]
 cases h:t[k - 1]? with
 | none => simp
 | some y => exact ht y (List.mem_of_getElem? h)
theorem textW_lt {c:List Nat} {p:Nat} (hc:∀ x ∈ c,x < 256):∀ {k row:Nat} {acc t:List Nat},(∀ x ∈ acc,x < 256) → textW c p k row acc = some t → ∀ x ∈ t,x < 256:=by
 intro k
 induction k with
 | zero =>
   intro row acc t ha h
   rw [textW] at h
   split at h
   · cases h;exact ha
   · cases h
 | succ k ih =>
   intro row acc t ha h
   rw [textW] at h
   split at h
   · cases h
   · refine ih (fun x hx => ?_) h
     rcases List.mem_cons.1 hx with rfl | hx
     · rw [List.getD_eq_getElem?_getD]
       cases h:c[atR p row]? with
       | none => simp
       | some y => exact hc y (List.mem_of_getElem? h)
     · exact ha x hx
theorem textB_lt {c t:List Nat} {p:Nat} (hc:∀ x ∈ c,x < 256) (h:textB c p = some t):∀ x ∈ t,x < 256:=by
 unfold textB at h
 split at h
 · cases h;simp
 · split at h
   · cases h
   · exact textW_lt hc (by simp) h
theorem prim_len {t es:List Nat} (h:IsEnds t es):primL t es ≤ t.length:=by have:=prim_lt h;rw [rowsL_len h] at this;omega
theorem textB_col {t es:List Nat} (h:IsEnds t es):textB (colL t es) (primL t es) = some t:=by
 have hl:=colL_len h
 have hp:=prim_len h
 unfold textB
 by_cases h0:t = []
 · subst h0
   rw [if_pos ⟨List.eq_nil_of_length_eq_zero (by rw [hl];rfl),by simpa using hp⟩]
 · have hpos:0 < t.length:=List.length_pos_iff.2 h0
   rw [if_neg (fun e => by rw [e.1] at hl;simp at hl;omega),if_neg,hl]
   · exact text_col h
   · rintro (g | g)
     · have hz:primL t es = 0:=by omega
       have hg:=prim_get h
       simp only [hz] at hg
       have:(rowsL t es)[0]'(by have:=prim_lt h;omega) = t.length:=rfl
       omega
     · omega
theorem col_textB {c t es:List Nat} {p:Nat} (h:textB c p = some t) (he:IsEnds t es):t.length = c.length ∧ colL t es = c ∧ primL t es = p:=by
 unfold textB at h
 split at h
 · rename_i g
   cases h
   obtain ⟨rfl,rfl⟩:=g
   exact ⟨rfl,List.eq_nil_of_length_eq_zero (by rw [colL_len he];rfl),by have:=prim_len he;simpa using this⟩
 · split at h
   · cases h
   · rename_i g
     exact col_text (by omega) h he
theorem segsN_le {n:Nat} (h:n ≤ 65536):segsN n ≤ 128:=by unfold segsN;omega
theorem Built.opened {t s:List Nat} (ht:∀ x ∈ t,x < 256) (hl:t.length ≤ 4096) (h:Built t s) (hs:s.length ≤ 65536):Opened s t:=by
 obtain ⟨es,b,N,he,hb,rfl⟩:=h
 rw [sealL_length,strL_length] at hs
 have hN:=hb.len
 have hNn:=hb.2.1
 have hcs:=crcS_lt t
 have hp:=prim_len he
 have hsg:=segsN_le (n:=t.length) (by omega)
 have hcl:=colL_len he
 obtain ⟨H,hH⟩:∃ H:Hd,H = ⟨t.length,primL t es,crcS t,segsN t.length,N⟩:=⟨_,rfl⟩
 have hF:fieldsL (sealL H (strL b)) = H:=by
  unfold sealL
  rw [List.append_assoc]
  exact fields_front _ (by rw [hH];show t.length < _;omega) (by rw [hH];show primL t es < _;omega) (by rw [hH];exact hcs) (by rw [hH];show segsN t.length < _;omega) (by rw [hH];show N < _;omega)
 have hB:((sealL H (strL b)).drop 28).take ((sealL H (strL b)).length - 32) = strL b:=by
  rw [sealL_length]
  unfold sealL
  rw [List.append_assoc,List.drop_append_of_le_length (by rw [frontL_length];omega),List.drop_eq_nil_of_le (by rw [frontL_length];omega),List.nil_append,show (strL b).length + 32 - 32 = (strL b).length by omega,List.take_left]
 rw [← hH]
 unfold Opened
 rw [hF,hB,strOf_strL,headW_seal (by rw [strL_length];omega),hH]
 refine ⟨rfl,by show N ≤ _;omega,hb.1,by show segsN t.length ≤ _;omega,colL t es, ?_,hcl,by omega,textB_col he,rfl⟩
 have:=all_back (colL_lt ht) (by rw [hcl];omega) hb
 rw [hcl,Int.toNat_natCast] at this
 exact this
theorem Opened.lt {t s:List Nat} (h:Opened s t):∀ x ∈ t,x < 256:=by
 obtain ⟨h1,h2,h3,h4,c,h5,h6,h7,h8,h9⟩:=h
 exact textB_lt (back_all h3 h5).1 h8
theorem low_all:∀ a < 256,(a ^^^ (255 - a)) % 256 = 255:=by decide +kernel
theorem crc_more (m:List Nat) (hm:∀ x ∈ m,x < 256):crcS (m ++ [crcS m % 256]) % 2 ≠ crcS m / 256 % 2:=by
 have hR:crcR 4294967295 m < 4294967296:=crcR_lt hm (by omega)
 unfold crcS crcM
 rw [show 4294967295 - 0 = 4294967295 from rfl,crcR_snoc]
 generalize crcR 4294967295 m = R at hR
 obtain ⟨c,hc⟩:∃ c,c = (4294967295 - R) % 256:=⟨_,rfl⟩
 rw [← hc]
 have hcl:c < 256:=by omega
 have hc2:c = 255 - R % 256:=by omega
 have hx:(R ^^^ c) % 256 = 255:=by
  have h1:=Nat.xor_mod_two_pow (a:=R) (b:=c) (n:=8)
  rw [show 2 ^ 8 = 256 from rfl] at h1
  rw [h1,Nat.mod_eq_of_lt hcl,hc2]
  have:=low_all (R % 256) (by omega)
  rwa [Nat.mod_eq_of_lt (a:=R % 256 ^^^ (255 - R % 256)) (Nat.xor_lt_two_pow (n:=8) (by omega) (by omega))] at this
 have hb:=crcB_table (r:=R) hcl
 rw [hx,show fN 8 255 = 755167117 by decide] at hb
 have ho:=xor_odd (R / 256) 755167117
 rw [hb] at ho
 have hlt:=crcB_lt hR hcl
 split at ho <;> omega
theorem headW_more {h:Hd} {b:List Nat} {x:Nat} (hb:∀ x ∈ b,x < 256) (hl:b.length ≤ 65000):headW (sealL h b ++ [x]) = 6:=by
 have hn:=sealL_length h b
 obtain ⟨m,hm⟩:∃ m,m = frontL h ++ b:=⟨_,rfl⟩
 have hml:m.length = b.length + 28:=by rw [hm,List.length_append,frontL_length];omega
 have hmb:∀ x ∈ m,x < 256:=fun x hx => by
  rw [hm] at hx
  rcases List.mem_append.1 hx with hx | hx
  · exact frontL_lt h x hx
  · exact hb x hx
 have hmk:m.take 4 = markL:=by rw [hm];rfl
 have hs:sealL h b ++ [x] = (m ++ [crcS m % 256]) ++ [crcS m / 256 % 256,crcS m / 65536 % 256,crcS m / 16777216 % 256,x]:=by
  unfold sealL;rw [← hm];unfold tail4;simp
 have hcut:(sealL h b ++ [x]).length - 4 = (m ++ [crcS m % 256]).length:=by rw [List.length_append,List.length_append,hn];simp;omega
 unfold headW
 rw [if_neg (by rw [List.length_append,hn];simp),if_neg (by rw [List.length_append,hn];simp;omega),hcut,hs,if_neg,List.take_left,List.drop_left,if_pos]
 · intro e
   simp only [tail4,List.cons.injEq] at e
   have:=crc_more m hmb
   omega
 · intro e
   apply e
   rw [List.append_assoc,List.take_append_of_le_length (by omega),hmk]
def boxB (s:List Nat):ByteArray:=strOf ((s.drop 28).take (s.length - 32))
def partsW (s:List Nat):Int:=if headW s ≠ 0 then headW s else if 1048576 < (fieldsL s).bits then 2 else if rightB (boxB s) (fieldsL s).bits = true then 0 else 2
theorem partsW_head {s:List Nat} (h:headW s ≠ 0):partsW s = headW s:=by unfold partsW;rw [if_pos h]
theorem partsW_zero {s:List Nat}:partsW s = 0 ↔ headW s = 0 ∧ (fieldsL s).bits ≤ 1048576 ∧ rightB (boxB s) (fieldsL s).bits = true:=by
 unfold partsW
 by_cases h0:headW s = 0
 · rw [if_neg (by omega)]
   by_cases h1:1048576 < (fieldsL s).bits
   · rw [if_pos h1];constructor
     · intro h;omega
     · rintro ⟨_,h,_⟩;omega
   · rw [if_neg h1]
     by_cases h2:rightB (boxB s) (fieldsL s).bits = true
     · rw [if_pos h2];exact ⟨fun _ => ⟨h0,by omega,h2⟩,fun _ => rfl⟩
     · rw [if_neg h2];constructor
       · intro h;omega
       · rintro ⟨_,_,h⟩;exact absurd h h2
 · rw [if_pos h0];constructor
   · intro h;exact absurd h h0
   · rintro ⟨h,_⟩;exact absurd h h0
def textW2 (h:Hd) (c:List Nat):Int × List Nat :=
 if c.length ≠ h.cnt then (7,[]) else if 4096 < c.length then (1,[]) else
  match textB c h.prim with
  | none => (7,[])
  | some t => if crcS t = h.sum then (0,t) else (6,[])
def openR (s:List Nat):Int × List Nat :=
 if partsW s ≠ 0 then (partsW s,[]) else if 65536 < (fieldsL s).segs then (1,[]) else
  if (backR (boxB s) (fieldsL s).bits (fieldsL s).segs freshL 0 []).1 ≠ 0 then ((backR (boxB s) (fieldsL s).bits (fieldsL s).segs freshL 0 []).1,[])
  else textW2 (fieldsL s) (backR (boxB s) (fieldsL s).bits (fieldsL s).segs freshL 0 []).2
theorem textW2_zero {h:Hd} {c t:List Nat}:textW2 h c = (0,t) ↔ c.length = h.cnt ∧ c.length ≤ 4096 ∧ textB c h.prim = some t ∧ crcS t = h.sum:=by
 unfold textW2
 by_cases h0:c.length = h.cnt
 · rw [if_neg (by simpa using h0)]
   by_cases h1:4096 < c.length
   · rw [if_pos h1];constructor
     · intro h;cases h
     · rintro ⟨_,h,_⟩;omega
   · rw [if_neg h1]
     cases h2:textB c h.prim with
     | none => constructor
               · intro h;cases h
               · rintro ⟨_,_,h,_⟩;cases h
     | some u =>
       by_cases h3:crcS u = h.sum
       · show (if crcS u = h.sum then ((0:Int),u) else (6,[])) = _ ↔ _
         rw [if_pos h3];constructor
         · intro h;cases h;exact ⟨h0,by omega,rfl,h3⟩
         · rintro ⟨_,_,h,_⟩;cases h;rfl
       · show (if crcS u = h.sum then ((0:Int),u) else (6,[])) = _ ↔ _
         rw [if_neg h3];constructor
         · intro h;cases h
         · rintro ⟨_,_,h,h4⟩;cases h;exact absurd h4 h3
 · rw [if_pos h0];constructor
   · intro h;cases h
   · rintro ⟨h,_⟩;exact absurd h h0
theorem openR_opened {s t:List Nat}:openR s = (0,t) ↔ Opened s t:=by
 unfold openR Opened
 by_cases h0:partsW s = 0
 · rw [if_neg (by simpa using h0)]
   obtain ⟨p1,p2,p3⟩:=partsW_zero.1 h0
   by_cases h1:65536 < (fieldsL s).segs
   · rw [if_pos h1];constructor
     · intro h;cases h
     · rintro ⟨_,_,_,h,_⟩;omega
   · rw [if_neg h1]
     obtain ⟨z,c,hb⟩:∃ z c,backR (boxB s) (fieldsL s).bits (fieldsL s).segs freshL 0 [] = (z,c):=⟨_,_,rfl⟩
     unfold boxB at hb p3
     rw [show boxB s = strOf ((s.drop 28).take (s.length - 32)) from rfl,hb]
     by_cases h2:z = 0
     · subst h2
       rw [if_neg (by simp)]
       show textW2 (fieldsL s) c = (0,t) ↔ _
       rw [textW2_zero];constructor
       · rintro ⟨a,b,d,e⟩;exact ⟨p1,p2,p3,by omega,c,rfl,a,b,d,e⟩
       · rintro ⟨_,_,_,_,c',e,r⟩;cases e;exact r
     · rw [if_pos h2];constructor
       · intro h;cases h;exact absurd rfl h2
       · rintro ⟨_,_,_,_,c',e,r⟩;cases e;exact absurd rfl h2
 · rw [if_pos h0];constructor
   · intro h;simp only [Prod.mk.injEq] at h;exact absurd h.1 h0
   · rintro ⟨a,b,d,_⟩;exact absurd (partsW_zero.2 ⟨a,b,d⟩) h0
def codesN (ls:List Nat):Nat:=(ls.filter fun n => decide (0 < n)).length
def longN (ls:List Nat):Nat:=ls.foldl max 0
def stat6 (t:List Nat):List Nat:=[t.length,(encZ 0 t).length,codesN (lensN (encZ 0 t)),longN (lensN (encZ 0 t)),(tabBits (lensL (encZ 0 t))).length,((encZ 0 t).flatMap (codeB (lensL (encZ 0 t)))).length]
def statsB:Nat → List Nat → List Nat → List (List Nat)
 | 0,_,_ => []
 | f + 1,row,l => if l = [] then [] else stat6 (toL row (l.take 512)).1 :: statsB f (toL row (l.take 512)).2 (l.drop 512)
def statsL (l:List Nat):List (List Nat):=statsB l.length freshL l
theorem statsB_nil (f:Nat) (row:List Nat):statsB f row [] = []:=by cases f <;> rfl
theorem statsB_fuel:∀ (f g:Nat) (row l:List Nat),l.length ≤ f → l.length ≤ g → statsB f row l = statsB g row l:=by
 intro f
 induction f with
 | zero =>
   intro g row l h _
   have:l = []:=List.eq_nil_of_length_eq_zero (by omega)
   rw [this,statsB_nil,statsB_nil]
 | succ f ih =>
   intro g row l h1 h2
   by_cases h0:l = []
   · rw [h0,statsB_nil,statsB_nil]
   · have hp:0 < l.length:=List.length_pos_iff.2 h0
     obtain ⟨g,rfl⟩:∃ k,g = k + 1:=⟨g - 1,by omega⟩
     rw [statsB,statsB,if_neg h0,if_neg h0,ih g _ _ (by rw [List.length_drop];omega) (by rw [List.length_drop];omega)]
theorem statsB_six:∀ (f:Nat) (row l:List Nat),∀ x ∈ statsB f row l,x.length = 6:=by
 intro f
 induction f with
 | zero => intro row l x hx;cases hx
 | succ f ih =>
   intro row l x hx
   rw [statsB] at hx
   split at hx
   · cases hx
   · rcases List.mem_cons.1 hx with rfl | hx
     · rfl
     · exact ih _ _ _ hx
theorem statsL_six (l:List Nat):∀ x ∈ statsL l,x.length = 6:=statsB_six _ _ _
theorem statsB_len:∀ (f:Nat) (row l:List Nat),l.length ≤ f → (statsB f row l).length = segsN l.length:=by
 intro f
 induction f with
 | zero =>
   intro row l h
   have:l = []:=List.eq_nil_of_length_eq_zero (by omega)
   subst this;rfl
 | succ f ih =>
   intro row l h
   rw [statsB]
   by_cases h0:l = []
   · rw [if_pos h0,h0];rfl
   · have hp:0 < l.length:=List.length_pos_iff.2 h0
     rw [if_neg h0,List.length_cons,ih _ _ (by rw [List.length_drop];omega),List.length_drop,segsN_step (n:=l.length) hp]
     omega
def sumK (k:Nat) (ls:List (List Nat)):Nat:=(ls.map fun x => x.getD k 0).sum
theorem sumK_cons (k:Nat) (x:List Nat) (ls:List (List Nat)):sumK k (x :: ls) = x.getD k 0 + sumK k ls:=by simp [sumK]
theorem sumK_snoc (k:Nat) (x:List Nat) (ls:List (List Nat)):sumK k (ls ++ [x]) = sumK k ls + x.getD k 0:=by simp [sumK]
theorem stats_bytes:∀ (f:Nat) (row l:List Nat),l.length ≤ f → RowOK row → (∀ c ∈ l,c < 256) → sumK 0 (statsB f row l) = l.length:=by
 intro f
 induction f with
 | zero =>
   intro row l h _ _
   have:l = []:=List.eq_nil_of_length_eq_zero (by omega)
   subst this;rfl
 | succ f ih =>
   intro row l h hr hl
   rw [statsB]
   by_cases h0:l = []
   · rw [if_pos h0,h0];rfl
   · have hp:0 < l.length:=List.length_pos_iff.2 h0
     have ht:=toL_ok hr (s:=l.take 512) (fun c hc => hl c (List.mem_of_mem_take hc))
     rw [if_neg h0,sumK_cons,ih _ _ (by rw [List.length_drop];omega) ht.1 (fun c hc => hl c (List.mem_of_mem_drop hc)),List.length_drop]
     show (toL row (l.take 512)).1.length + _ = _
     rw [ht.2.2,List.length_take]
     omega
theorem stats_bits:∀ (f:Nat) (row l:List Nat),sumK 4 (statsB f row l) + sumK 5 (statsB f row l) = (allB f row l).length:=by
 intro f
 induction f with
 | zero => intro row l;rfl
 | succ f ih =>
   intro row l
   rw [statsB,allB]
   by_cases h0:l = []
   · rw [if_pos h0,if_pos h0];rfl
   · rw [if_neg h0,if_neg h0,sumK_cons,sumK_cons,List.length_append,← ih]
     show (tabBits (lensL (encZ 0 (toL row (l.take 512)).1))).length + _ + (((encZ 0 (toL row (l.take 512)).1).flatMap (codeB (lensL (encZ 0 (toL row (l.take 512)).1)))).length + _) = _
     unfold segBits
     rw [List.length_append]
     omega
theorem longN_foldl (ls:List Nat):∀ a:Nat,a ≤ ls.foldl max a ∧ (∀ x ∈ ls,x ≤ ls.foldl max a) ∧ (ls.foldl max a = a ∨ ls.foldl max a ∈ ls):=by
 induction ls with
 | nil => intro a;exact ⟨Nat.le_refl _,fun x hx => (by cases hx),.inl rfl⟩
 | cons y ls ih =>
   intro a
   obtain ⟨h1,h2,h3⟩:=ih (max a y)
   rw [List.foldl_cons]
   refine ⟨by omega,fun x hx => ?_, ?_⟩
   · rcases List.mem_cons.1 hx with rfl | hx
     · omega
     · exact h2 x hx
   · rcases h3 with h3 | h3
     · rcases Nat.le_total a y with g | g
       · right;rw [h3,Nat.max_eq_right g];simp
       · left;rw [h3,Nat.max_eq_left g]
     · right;exact List.mem_cons_of_mem _ h3
theorem codes_many {ls:List Int}:∀ {l:List Nat},(∀ x ∈ l,∃ n:Nat,ls[x]? = some (n:Int) ∧ 1 ≤ n ∧ n ≤ 15) → l.length ≤ (l.flatMap (codeB ls)).length:=by
 intro l
 induction l with
 | nil => intro _;simp
 | cons x l ih =>
   intro h
   obtain ⟨n,h1,h2,h3⟩:=h x (by simp)
   rw [List.flatMap_cons,List.length_append,codeB_length h1,List.length_cons]
   have:=ih (fun y hy => h y (List.mem_cons_of_mem _ hy))
   omega
theorem encZ_pos (n:Nat) (t:List Nat):257 ∈ encZ n t:=by
 induction t generalizing n with
 | nil => simp [encZ]
 | cons c t ih => rw [encZ];split <;> simp [ih]
def goodS (x:List Nat):Prop:=∃ a b c d e f,x = [a,b,c,d,e,f] ∧ 1 ≤ a ∧ a ≤ 512 ∧ 1 ≤ d ∧ d ≤ 15 ∧ 1 ≤ c ∧ b ≤ a + 1 ∧ b ≤ f ∧ c ≤ 258 ∧ e ≤ 20000 ∧ f ≤ 15 * b
theorem stat6_good {t:List Nat} (ht:∀ c ∈ t,c < 256) (h0:t ≠ []) (h512:t.length ≤ 512):goodS (stat6 t):=by
 have hm:=encZ_pos 0 t
 obtain ⟨n,h1,h2,h3⟩:=seg_has hm (by omega)
 have hlen:=lensN_length (encZ 0 t)
 have hn:n ∈ lensN (encZ 0 t):=by
  have:=List.mem_of_getElem? h1
  rw [lensL_map] at this
  obtain ⟨k,hk,e⟩:=List.mem_map.1 this
  have:k = n:=by have e':(k:Int) = (n:Int):=e;omega
  rw [← this];exact hk
 have hall:∀ k ∈ lensN (encZ 0 t),k ≤ 15:=fun k hk => by
  have:=okL_all (seg_ok (encZ 0 t)) (Int.ofNat k) (by rw [lensL_map];exact List.mem_map_of_mem hk)
  have e:Int.ofNat k = (k:Int):=rfl
  omega
 obtain ⟨g1,g2,g3⟩:=longN_foldl (lensN (encZ 0 t)) 0
 have hl:=encZ_snoc_len t 0
 have hp:0 < t.length:=List.length_pos_iff.2 h0
 refine ⟨_,_,_,_,_,_,rfl,hp,h512, ?_, ?_, ?_,by omega,codes_many (encZ_bits ht), ?_,tabBits_length_le (seg_ok _),codes_len (encZ_bits ht)⟩
 · have:=g2 n hn;unfold longN;omega
 · unfold longN
   rcases g3 with g3 | g3
   · omega
   · exact hall _ g3
 · unfold codesN
   exact List.length_pos_of_mem (List.mem_filter.2 ⟨hn,by simp;omega⟩)
 · unfold codesN
   have:=List.length_filter_le (fun n => decide (0 < n)) (lensN (encZ 0 t))
   omega
theorem stats_good:∀ (f:Nat) (row l:List Nat),l.length ≤ f → RowOK row → (∀ c ∈ l,c < 256) → (∀ x ∈ statsB f row l,goodS x) ∧ ∀ i,i + 1 < (statsB f row l).length → ∃ x,(statsB f row l)[i]? = some x ∧ x.getD 0 0 = 512:=by
 intro f
 induction f with
 | zero => intro row l h _ _;exact ⟨fun x hx => (by cases hx),fun i hi => by simp [statsB] at hi⟩
 | succ f ih =>
   intro row l h hr hl
   rw [statsB]
   by_cases h0:l = []
   · rw [if_pos h0];exact ⟨fun x hx => (by cases hx),fun i hi => by simp at hi⟩
   · have hp:0 < l.length:=List.length_pos_iff.2 h0
     have ht:=toL_ok hr (s:=l.take 512) (fun c hc => hl c (List.mem_of_mem_take hc))
     have hd:(l.drop 512).length ≤ f:=by rw [List.length_drop];omega
     obtain ⟨i1,i2⟩:=ih _ _ hd ht.1 (fun c hc => hl c (List.mem_of_mem_drop hc))
     have hlt:=ht.2.2
     rw [List.length_take] at hlt
     rw [if_neg h0]
     refine ⟨fun x hx => ?_,fun i hi => ?_⟩
     · rcases List.mem_cons.1 hx with rfl | hx
       · exact stat6_good ht.2.1 (fun e => by rw [e] at hlt;simp at hlt;omega) (by omega)
       · exact i1 x hx
     · rw [List.length_cons] at hi
       cases i with
       | zero =>
         refine ⟨_,rfl, ?_⟩
         show (toL row (l.take 512)).1.length = 512
         have h2:0 < (statsB f (toL row (l.take 512)).2 (l.drop 512)).length:=by omega
         have h3:l.drop 512 ≠ []:=fun e => by rw [e,statsB_nil] at h2;simp at h2
         have h4:0 < (l.drop 512).length:=List.length_pos_iff.2 h3
         rw [List.length_drop] at h4
         omega
       | succ i =>
         obtain ⟨x,hx,h5⟩:=i2 i (by omega)
         exact ⟨x,by simpa using hx,h5⟩
def segsT (s:List Nat):Option (List (List Nat)):=if (openR s).1 = 0 then (match backR (boxB s) (fieldsL s).bits (fieldsL s).segs freshL 0 [] with | (_,c) => some (statsL c)) else none
theorem opened_stats {s t:List Nat} (h:Opened s t):∃ c,(∀ x ∈ c,x < 256) ∧ c.length ≤ 4096 ∧ c.length = (fieldsL s).cnt ∧ segsN c.length = (fieldsL s).segs ∧ Bs (boxB s) (fieldsL s).bits (allL c) ∧ textB c (fieldsL s).prim = some t ∧ segsT s = some (statsL c):=by
 have ho:=openR_opened.2 h
 obtain ⟨h1,h2,h3,h4,c,h5,h6,h7,h8,h9⟩:=h
 obtain ⟨g1,g2,g3⟩:=back_all (N:=(fieldsL s).bits) h3 h5
 refine ⟨c,g1,h7,h6,g2,g3,h8, ?_⟩
 unfold segsT
 rw [ho,if_pos rfl]
 show (match backR (strOf ((s.drop 28).take (s.length - 32))) (fieldsL s).bits (fieldsL s).segs freshL 0 [] with | (_,c) => some (statsL c)) = _
 rw [h5]
theorem four_cells {w:World} {g:Nat} {t:TypeId} {a b c d:Value} (h:Bk w g t #[a,b,c,d]):w.cell? ⟨g,0,none⟩ = some a ∧ w.cell? ⟨g,1,none⟩ = some b ∧ w.cell? ⟨g,2,none⟩ = some c ∧ w.cell? ⟨g,3,none⟩ = some d:=⟨by rw [h.cell];rfl,by rw [h.cell];rfl,by rw [h.cell];rfl,by rw [h.cell];rfl⟩
set_option maxHeartbeats 2000000 in
theorem runadd_low (g n W x:Nat) (t:TypeId) (a d:Value) (w:World) (h:Bk w g t #[a,.int .u64 n,.int .u64 W,d]) (hn:n ≤ 65536) (hW:W ≤ 32768) (hx:x < 2) :
 Calls Tryz.prog 182 #[.pointer (some ⟨g,1,none⟩),.int .u64 x] w fun e w' => e = .returned (.bool (decide (n + (x + 1) * max 1 (2 * W) ≤ 65536))) ∧ Bk w' g t #[a,.int .u64 ((n + (x + 1) * max 1 (2 * W):Nat):Int),.int .u64 ((max 1 (2 * W):Nat):Int),d] ∧ Fr (fun k => k = g) w w':=by
 obtain ⟨c0,c1,c2,c3⟩:=four_cells h
 have f1:=h.free 1
 have f2:=h.free 2
 obtain ⟨V,hV⟩:∃ V,V = max 1 (2 * W):=⟨_,rfl⟩
 have hV2:V ≤ 65536:=by omega
 have hVi:max (1:Int) ((W:Int) * 2) = (V:Int):=by omega
 rw [← hV]
 have HB:=hide h
 clear h hV
 obtain ⟨S,hS⟩:∃ S,S = n + (x + 1) * V:=⟨_,rfl⟩
 rw [← hS]
 have hfin:∀ w',w' = ((w.setCell ⟨g,1 + 1,none⟩ (.int .u64 V)).setCell ⟨g,1,none⟩ (.int .u64 S)).drew → Bk w' g t #[a,.int .u64 S,.int .u64 V,d] ∧ Fr (fun k => k = g) w w':=by
  rintro w' rfl
  have h1:=((HB.out.set_ 2 (.int .u64 V)).set_ 1 (.int .u64 S)).drew
  exact ⟨h1,(((Fr.refl (fun k => k = g) w).setCell (p:=⟨g,1 + 1,none⟩) (.inl rfl) _).setCell (p:=⟨g,1,none⟩) (.inl rfl) _).drew⟩
 have HFin:=hide hfin
 clear hfin
 have hS2:S ≤ 65536 + 2 * 65536:=by
  have:(x + 1) * V ≤ 2 * V:=Nat.mul_le_mul_right _ (by omega)
  omega
 have hx2:x = 0 ∨ x = 1:=by omega
 have g1:(w.setCell ⟨g,1 + 1,none⟩ (.int .u64 V)).cell? ⟨g,1,none⟩ = some (.int .u64 (n:Nat)):=by rw [(HB.out.set_ (1 + 1) (.int .u64 V)).cell];rfl
 have g2:(w.setCell ⟨g,1 + 1,none⟩ (.int .u64 V)).cell? ⟨g,1 + 1,none⟩ = some (.int .u64 (V:Nat)):=by rw [(HB.out.set_ (1 + 1) (.int .u64 V)).cell];rfl
 rcases hx2 with rfl | rfl
 · have hSn:S = n + V:=by omega
   subst hSn
   clear hS
   go_enter Tryz.func182,Tryz.ntmps182
   go_wp2_with fail
   go_region
   go_wp2_with fail
   go_ret
   obtain ⟨r1,r2⟩:=HFin.out _ rfl
   refine ⟨?_,r1,r2⟩
   have e:decide ((n:Int) + (V:Int) ≤ 65536) = decide (n + V ≤ 65536):=decide_eq_decide.2 (by omega)
   rw [← e];rfl
 · have hSn:S = n + 2 * V:=by omega
   subst hSn
   clear hS
   go_enter Tryz.func182,Tryz.ntmps182
   go_wp2_with fail
   go_region
   go_wp2_with fail
   go_ret
   obtain ⟨r1,r2⟩:=HFin.out _ rfl
   refine ⟨?_,r1,r2⟩
   have e:decide ((n:Int) + 2 * (V:Int) ≤ 65536) = decide (n + 2 * V ≤ 65536):=decide_eq_decide.2 (by omega)
   rw [← e];rfl
set_option maxHeartbeats 2000000 in
theorem runadd_high (g W x:Nat) (t:TypeId) (a d:Value) (w:World) (h:Bk w g t #[a,.int .u64 65537,.int .u64 W,d]) (hx:x < 2) :
 Calls Tryz.prog 182 #[.pointer (some ⟨g,1,none⟩),.int .u64 x] w fun e w' => e = .returned (.bool false) ∧ (∃ n V:Nat,Bk w' g t #[a,.int .u64 n,.int .u64 V,d]) ∧ Fr (fun k => k = g) w w':=by
 obtain ⟨c0,c1,c2,c3⟩:=four_cells h
 have f1:=h.free 1
 have f2:=h.free 2
 obtain ⟨Y,hY⟩:∃ Y:Nat,IntKind.u64.wrap ((W:Int) * 2) = (Y:Int):=⟨(W * 2) % 18446744073709551616,by simp [IntKind.wrap,IntKind.bits,IntKind.signed]⟩
 obtain ⟨V,hV⟩:∃ V,V = max 1 Y:=⟨_,rfl⟩
 have hVi:max (1:Int) (Y:Int) = (V:Int):=by omega
 have HB:=hide h
 clear h hV
 by_cases hbig:V ≤ 65536
 · obtain ⟨S,hS⟩:∃ S,S = 65537 + (x + 1) * V:=⟨_,rfl⟩
   have hS2:S ≤ 65537 + 2 * 65536:=by
    have:(x + 1) * V ≤ 2 * V:=Nat.mul_le_mul_right _ (by omega)
    omega
   have hfin:∀ (S:Nat) w',w' = ((w.setCell ⟨g,1 + 1,none⟩ (.int .u64 V)).setCell ⟨g,1,none⟩ (.int .u64 S)).drew → Bk w' g t #[a,.int .u64 S,.int .u64 V,d] ∧ Fr (fun k => k = g) w w':=by
    rintro S w' rfl
    have h1:=((HB.out.set_ 2 (.int .u64 V)).set_ 1 (.int .u64 S)).drew
    exact ⟨h1,(((Fr.refl (fun k => k = g) w).setCell (p:=⟨g,1 + 1,none⟩) (.inl rfl) _).setCell (p:=⟨g,1,none⟩) (.inl rfl) _).drew⟩
   have HFin:=hide hfin
   clear hfin
   have hx2:x = 0 ∨ x = 1:=by omega
   have g1:(w.setCell ⟨g,1 + 1,none⟩ (.int .u64 V)).cell? ⟨g,1,none⟩ = some (.int .u64 65537):=by rw [(HB.out.set_ (1 + 1) (.int .u64 V)).cell];rfl
   have g2:(w.setCell ⟨g,1 + 1,none⟩ (.int .u64 V)).cell? ⟨g,1 + 1,none⟩ = some (.int .u64 (V:Nat)):=by rw [(HB.out.set_ (1 + 1) (.int .u64 V)).cell];rfl
   rcases hx2 with rfl | rfl
   · clear hS hS2
     have e:decide ((65537:Int) + (V:Int) ≤ 65536) = false:=decide_eq_false (by omega)
     go_enter Tryz.func182,Tryz.ntmps182
     go_wp2_with fail
     go_region
     go_wp2_with fail
     go_ret
     obtain ⟨r1,r2⟩:=HFin.out (65537 + V) _ rfl
     exact ⟨rfl,⟨_,_,r1⟩,r2⟩
   · clear hS hS2
     have e:decide ((65537:Int) + 2 * (V:Int) ≤ 65536) = false:=decide_eq_false (by omega)
     go_enter Tryz.func182,Tryz.ntmps182
     go_wp2_with fail
     go_region
     go_wp2_with fail
     go_ret
     obtain ⟨r1,r2⟩:=HFin.out (65537 + 2 * V) _ rfl
     exact ⟨rfl,⟨_,_,r1⟩,r2⟩
 · have hb2:(65536:Int) < (V:Int):=by omega
   go_enter Tryz.func182,Tryz.ntmps182
   go_wp2_with fail
   go_ret
   exact ⟨rfl,⟨65537,V,HB.out.set_ 2 (.int .u64 V)⟩,(Fr.refl (fun k => k = g) w).setCell (p:=⟨g,1 + 1,none⟩) (.inl rfl) _⟩
end Go.Proofs.YtcfnjpokfodmoaaGreatDoor
