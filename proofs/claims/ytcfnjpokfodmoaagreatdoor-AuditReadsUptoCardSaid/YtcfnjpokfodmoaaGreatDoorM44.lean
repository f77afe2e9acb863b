/- Lemmas for the row: AudNums, AudRead. -/
import Derived.Test.YtcfnjpokfodmoaaGreatDoorM36
import Derived.Test.YtcfnjpokfodmoaaGreatDoorM42
import Derived.Test.YtcfnjpokfodmoaaGreatDoorM43
import Derived.LoopIn
import Derived.LoopNIn
import Derived.OwnWalkIn
import Derived.TacticsInMore
set_option maxRecDepth 100000
set_option linter.unusedVariables false
namespace Go.Proofs.YtcfnjpokfodmoaaGreatDoor
open Go Go.RowKit
attribute [local go_sem] Oper.semAt_some
theorem splitseq_any (s sep:ByteArray) (w:World):Calls Tryz.prog 95 #[.string s,.string sep] w fun e w' =>
 e = .returned (.func (.func 194) #[] #[.pointer (some ⟨w.heap.size + 1,0,none⟩),.pointer (some ⟨w.heap.size,0,none⟩),.pointer (some ⟨w.heap.size + 2,0,none⟩)]) ∧ w' = ((w.alloc (.cells #[.string s] 9)).alloc (.cells #[.string sep] 9)).alloc (.cells #[.int .i64 0] 3):=by
 have hmf:∀ (fn:Fn) (first cap:Array Value) (w:World),(Instr.makeFunc fn first cap).run Tryz.prog w = .ok (.func fn first cap) w:=fun _ _ _ _ => rfl
 have sp:Calls Tryz.prog 141 #[.string s,.string sep,.int .i64 0] w fun e w' =>
  e = .returned (.func (.func 194) #[] #[.pointer (some ⟨w.heap.size + 1,0,none⟩),.pointer (some ⟨w.heap.size,0,none⟩),.pointer (some ⟨w.heap.size + 2,0,none⟩)]) ∧ w' = ((w.alloc (.cells #[.string s] 9)).alloc (.cells #[.string sep] 9)).alloc (.cells #[.int .i64 0] 3):=by
  go_enter Tryz.func141,Tryz.ntmps141
  go_wp2_with fail
  go_ret
  exact ⟨rfl,rfl⟩
 go_enter Tryz.func95,Tryz.ntmps95
 go_wp2_with (go_at_call 141;refine (Calls.mono sp ?_);rintro e w1 ⟨rfl,rfl⟩)
 go_ret
 exact ⟨rfl,rfl⟩
structure NW where
 word:ByteArray
 pre:List Nat
 cur:ByteArray
 tail:Option (List Nat)
def comb (pre:List Nat):Option Nat → Option (List Nat) → Option (List Nat)
 | some n,some l => some (pre ++ n :: l)
 | _,_ => none
theorem comb_none (pre:List Nat) (t:Option (List Nat)):comb pre none t = none:=by cases t <;> rfl
def NCells (w W:World) (cur:ByteArray) (pre:List Nat):Prop :=
 Bk W (w.heap.size + 3) 9 #[.string cur] ∧ Bk W (w.heap.size + 4) 9 #[.string ⟨#[32]⟩] ∧ Bk W (w.heap.size + 5) 3 #[.int .i64 0] ∧ Bk W w.heap.size 93 #[.slice none 0 0] ∧ Bk W (w.heap.size + 1) 4 #[.bool false] ∧ (∃ v,Bk W (w.heap.size + 2) 93 #[v] ∧ W.ownsRow (w.heap.size + 8) 22 1 v pre.length (pre.map u64V)) ∧ Below w.heap.size w W
theorem ne_cells {W:World} {g l:Nat} {t:TypeId} {cs:Array Value} {o:Obj} (h:Bk W g t cs) (hl:W.heap[l]? = some o) (ho:o.isCells = false):g ≠ l:=by
 rintro rfl
 unfold Bk at h
 rw [h] at hl
 cases hl
 cases ho
theorem Bk.stays {W:World} {g l:Nat} {t:TypeId} {cs:Array Value} {o:Obj} (h:Bk W g t cs) (o':Obj) (hl:W.heap[l]? = some o) (ho:o.isCells = false):Bk (W.putObj l o') g t cs:=h.fr (Fr.putObj W l o') (ne_cells h hl ho)
theorem own_stays {W:World} {base e size n l:Nat} {v:Value} {xs:List Value} {o:Obj} (h:W.ownsRow base e size v n xs) (o':Obj) (hl:W.heap[l]? = some o) (ho:o.isCells = false):(W.putObj l o').ownsRow base e size v n xs:=by
 refine own_fr h (Fr.putObj W l o') (fun g hg hgl => ?_)
 rcases h.2 with ⟨rfl,_⟩ | ⟨g',cap,cur,rfl,_,hh,_⟩
 · simp [Value.ownBlock] at hg
 · obtain rfl:g' = g:=by simpa [Value.ownBlock] using hg
   exact ne_cells (t:=e) hh hl ho hgl
theorem below_stays {n:Nat} {w W:World} {l:Nat} (h:Below n w W) (o':Obj) (hl:n ≤ l):Below n w (W.putObj l o') :=
 ⟨h.os,h.tape,h.output,by rw [World.putObj_size];exact h.size,fun k hk => (World.putObj_heap_other (by omega)).trans (h.block k hk)⟩
theorem NCells.stays {w W:World} {cur:ByteArray} {pre:List Nat} {l:Nat} {o:Obj} (h:NCells w W cur pre) (o':Obj) (hl:W.heap[l]? = some o) (ho:o.isCells = false) (hw:w.heap.size ≤ l):NCells w (W.putObj l o') cur pre:=by
 obtain ⟨h1,h2,h3,h4,h5,⟨v,h6,h7⟩,h8⟩:=h
 exact ⟨h1.stays o' hl ho,h2.stays o' hl ho,h3.stays o' hl ho,h4.stays o' hl ho,h5.stays o' hl ho,⟨v,h6.stays o' hl ho,own_stays h7 o' hl ho⟩,below_stays h8 o' hw⟩
theorem cut_none {cur:ByteArray} (h:Lib.indexByte cur.data.toList 32 = -1):numsL (strL cur) = comb [] (wordV (strL cur)) (some []):=by
 have hno:32 ∉ strL cur:=fun hm => by
  obtain ⟨k,hk⟩:=List.getElem?_of_mem hm
  rw [strL_data,List.getElem?_map] at hk
  cases hb:cur.data.toList[k]? with
  | none => rw [hb] at hk;cases hk
  | some b =>
    rw [hb] at hk
    have:b = 32:=by
     have:=Option.some.inj hk
     exact UInt8.toNat_inj.1 this
    exact Lib.indexByte_none h k (by rw [hb,this])
 unfold numsL
 rw [splitL_last hno,allV]
 cases wordV (strL cur) <;> rfl
theorem cut_some {cur:ByteArray} {k:Nat} (h:Lib.indexByte cur.data.toList 32 = (k:Int)):k < cur.size ∧ numsL (strL cur) = comb [] (wordV (strL (cur.extract 0 k))) (numsL (strL (cur.extract (k + 1) cur.size))):=by
 obtain ⟨h1,h2⟩:=Lib.indexByte_some h
 have hk:k < cur.size:=by
  have:=(List.getElem?_eq_some_iff.1 h1).1
  simpa using this
 have hx:strL (cur.extract 0 k) = (strL cur).take k:=by rw [strL_sub,List.drop_zero]
 have hy:strL (cur.extract (k + 1) cur.size) = (strL cur).drop (k + 1):=by rw [strL_sub,List.take_of_length_le (by rw [strL_length];exact Nat.le_refl _)]
 have hno:32 ∉ (strL cur).take k:=fun hm => by
  obtain ⟨j,hj⟩:=List.getElem?_of_mem hm
  have hjk:j < k:=by have:=(List.getElem?_eq_some_iff.1 hj).1;rw [List.length_take] at this;omega
  rw [List.getElem?_take_of_lt hjk,strL_data,List.getElem?_map] at hj
  cases hb:cur.data.toList[j]? with
  | none => rw [hb] at hj;cases hj
  | some b =>
    rw [hb] at hj
    have:b = 32:=UInt8.toNat_inj.1 (Option.some.inj hj)
    exact h2 j hjk (by rw [hb,this])
 have he:strL cur = (strL cur).take k ++ 32 :: (strL cur).drop (k + 1):=by
  have hg:(strL cur)[k]? = some 32:=by rw [strL_data,List.getElem?_map,h1];rfl
  obtain ⟨hk',h32⟩:=List.getElem?_eq_some_iff.1 hg
  conv => lhs;rw [← List.take_append_drop k (strL cur),List.drop_eq_getElem_cons hk',h32]
 refine ⟨hk, ?_⟩
 rw [hx,hy]
 conv => lhs;rw [he]
 unfold numsL
 rw [splitL_word hno,allV]
 cases wordV ((strL cur).take k) <;> cases allV (splitL ((strL cur).drop (k + 1))) <;> rfl
set_option maxHeartbeats 4000000 in
theorem splititer (s:ByteArray) (w WL W1:World) (l m:Nat) (hm1:1 ≤ m) (hL:WL.heap.size = w.heap.size + 6) (Out:World → Prop) (hs:s.size ≤ 1048576)
 (hN:NCells w W1 s []) (h2:WL.heap.size + 2 ≤ W1.heap.size)
 (hY:∀ (x:NW) (W:World),(NCells w W x.cur x.pre ∧ numsL (strL s) = comb x.pre (wordV (strL x.word)) x.tail ∧ x.word.size ≤ 1048576 ∧ x.pre.length ≤ s.size) → Two WL.heap.size W1 W →
   YieldAt Fence.wide (m - 1) Tryz.prog l #[.string x.word] W fun e W' => (e = .returned (.bool true) ∧ (∃ n,wordV (strL x.word) = some n ∧ NCells w W' x.cur (x.pre ++ [n])) ∧ Two WL.heap.size W1 W') ∨ (e = .returned (.bool false) ∧ Out W')) :
 CallsIn Fence.wide m Tryz.prog 194 #[.func (.yield l) #[] #[],.pointer (some ⟨w.heap.size + 4,0,none⟩),.pointer (some ⟨w.heap.size + 3,0,none⟩),.pointer (some ⟨w.heap.size + 5,0,none⟩)] W1 fun e W' =>
  (∃ v,e = .returned v) ∧ (((∃ pre,numsL (strL s) = some pre ∧ ∃ cur,NCells w W' cur pre) ∧ Two WL.heap.size W1 W') ∨ Out W'):=by
 refine callsIn_of_wp Tryz.func194 rfl trivial ?_ rfl
 simp only [Tryz.ntmps194,List.size_toArray,List.length_cons,List.length_nil,Nat.reduceAdd,Nat.reduceSub,Array.replicate_succ,Array.replicate_zero,List.push_toArray,List.append_toArray,List.nil_append,List.cons_append]
 have hsep:=hN.2.1.cell 0
 have HN:=hide hN
 have HY:=hide hY
 have HL:=hide hL
 clear hN hY hL
 gi_wp2
 gi_loopw [7] (fun _ wr => ∃ (cur:ByteArray) (pre:List Nat),cur.size ≤ 1048576 ∧ pre.length + cur.size ≤ s.size ∧ Hid (NCells w wr cur pre) ∧ Hid (Two WL.heap.size W1 wr) ∧ Hid (numsL (strL s) = (numsL (strL cur)).map (pre ++ ·))) (fun _ wr => match wr.cell? ⟨w.heap.size + 3,0,none⟩ with | some (.string c) => c.size | _ => 0)
 case atStart => exact ⟨s,[],hs,by simp,HN,hide (Two.refl _ _),hide (by cases numsL (strL s) <;> rfl)⟩
 case round =>
  clear HN
  obtain ⟨cur,pre,hcs,hps,hNC,hTw,hnum⟩:=hrel
  obtain ⟨h1,h2',h3,h4,h5,h6,h7⟩:=hNC.out
  have c1:wr.cell? ⟨w.heap.size + 3,0,none⟩ = some (.string cur):=h1.cell 0
  have c2:wr.cell? ⟨w.heap.size + 4,0,none⟩ = some (.string ⟨#[32]⟩):=h2'.cell 0
  have c3:wr.cell? ⟨w.heap.size + 5,0,none⟩ = some (.int .i64 0):=h3.cell 0
  have f1:=h1.free 0
  clear h1 h2' h3 h4 h5 h6 h7
  have hge:=Lib.indexByte_ge cur.data.toList 32
  have ix:=Tryz.strings_Index_one cur 32 wr
  by_cases hm:Lib.indexByte cur.data.toList 32 = -1
  · have hc:=cut_none hm
    rw [hm] at ix
    have hnum2:numsL (strL s) = comb pre (wordV (strL cur)) (some []):=by
     rw [hnum.out,hc]
     cases wordV (strL cur) <;> rfl
    obtain ⟨fn,tmps,assign,body,hy,hR⟩:=HY.out ⟨cur,pre,cur,some []⟩ wr ⟨hNC.out,hnum2,by show cur.size ≤ 1048576;omega,by show pre.length ≤ s.size;omega⟩ hTw.out
    have HIx:=hide ix
    have HNum:=hide hnum2
    clear hm hge ix hc hnum2 hnum
    dsimp only at hy
    gi_wp2_with (refine ⟨trivial, ?_⟩;gi_at_call 196;refine ((callsIn_wide (n:=m - 1)).2 HIx.out).mono ?_;rintro e w1 ⟨rfl,rfl⟩)
    refine hR.mono ?_
    rintro e W' (⟨rfl,⟨n,hw,hG⟩,htw⟩ | ⟨rfl,hO⟩)
    · gi_wp2
      go_end0
      refine ⟨⟨_,rfl⟩,.inl ⟨⟨pre ++ [n], ?_,cur,hG⟩,htw⟩⟩
      rw [HNum.out,hw];rfl
    · gi_wp2
      go_end0
      exact ⟨⟨_,rfl⟩,.inr hO⟩
  · obtain ⟨k,hk⟩:∃ k:Nat,Lib.indexByte cur.data.toList 32 = (k:Int):=⟨(Lib.indexByte cur.data.toList 32).toNat,by omega⟩
    obtain ⟨hkl,hc⟩:=cut_some hk
    rw [hk] at ix
    have hnum2:numsL (strL s) = comb pre (wordV (strL (cur.extract 0 k))) (numsL (strL (cur.extract (k + 1) cur.size))):=by
     rw [hnum.out,hc]
     cases wordV (strL (cur.extract 0 k)) <;> cases numsL (strL (cur.extract (k + 1) cur.size)) <;> rfl
    have hsz:(cur.extract 0 k).size = k:=by rw [ByteArray.size_extract];omega
    have hsz2:(cur.extract (k + 1) cur.size).size = cur.size - (k + 1):=by rw [ByteArray.size_extract];omega
    obtain ⟨X,hX⟩:∃ X,X = cur.extract 0 k:=⟨_,rfl⟩
    obtain ⟨R,hR'⟩:∃ R,R = cur.extract (k + 1) cur.size:=⟨_,rfl⟩
    rw [← hX] at hnum2 hsz
    rw [← hR'] at hnum2 hsz2
    obtain ⟨fn,tmps,assign,body,hy,hR⟩:=HY.out ⟨X,pre,cur,numsL (strL R)⟩ wr ⟨hNC.out,hnum2,by show X.size ≤ 1048576;omega,by show pre.length ≤ s.size;omega⟩ hTw.out
    have hXs:=hX.symm
    have hRs:=hR'.symm
    have HIx:=hide ix
    have HNum:=hide hnum2
    clear hm hge ix hc hnum2 hnum hk hX hR'
    dsimp only at hy
    gi_wp2_with (refine ⟨trivial, ?_⟩;gi_at_call 196;refine ((callsIn_wide (n:=m - 1)).2 HIx.out).mono ?_;rintro e w1 ⟨rfl,rfl⟩)
    refine hR.mono ?_
    rintro e W' (⟨rfl,⟨n,hw,hG⟩,htw⟩ | ⟨rfl,hO⟩)
    · obtain ⟨g1,g2,g3,g4,g5,g6,g7⟩:=hG
      have c4:W'.cell? ⟨w.heap.size + 3,0,none⟩ = some (.string cur):=g1.cell 0
      have c5:W'.cell? ⟨w.heap.size + 4,0,none⟩ = some (.string ⟨#[32]⟩):=g2.cell 0
      have f4:=g1.free 0
      have HG1:=hide g1
      have HG2:=hide g2
      have HG3:=hide g3
      have HG4:=hide g4
      have HG5:=hide g5
      have HG6:=hide g6
      have HG7:=hide g7
      have HC1:=hide c1
      clear g1 g2 g3 g4 g5 g6 g7 c1 c2 c3 f1
      gi_wp2
      go_roundw
      case rel =>
       have hz2:WL.heap.size + 1 < W'.heap.size:=by
        rcases Nat.lt_or_ge (WL.heap.size + 1) W'.heap.size with h | h
        · exact h
        · have:=htw.2
          rw [Array.getElem?_eq_none h,eq_comm,Array.getElem?_eq_none_iff] at this
          omega
       have hLz:=HL.out
       refine ⟨R,pre ++ [n],by omega,by rw [List.length_append];simp only [List.length_cons,List.length_nil];omega,hide ⟨?_, ?_, ?_, ?_, ?_, ?_, ?_⟩,hide ?_,hide ?_⟩
       · exact HG1.out.set_ 0 (.string R)
       · exact HG2.out.far (p:=⟨w.heap.size + 3,0,none⟩) (by show w.heap.size + 4 ≠ w.heap.size + 3;omega) _
       · exact HG3.out.far (p:=⟨w.heap.size + 3,0,none⟩) (by show w.heap.size + 5 ≠ w.heap.size + 3;omega) _
       · exact HG4.out.far (p:=⟨w.heap.size + 3,0,none⟩) (by show w.heap.size ≠ w.heap.size + 3;omega) _
       · exact HG5.out.far (p:=⟨w.heap.size + 3,0,none⟩) (by show w.heap.size + 1 ≠ w.heap.size + 3;omega) _
       · obtain ⟨v,hv1,hv2⟩:=HG6.out
         exact ⟨v,hv1.far (p:=⟨w.heap.size + 3,0,none⟩) (by show w.heap.size + 2 ≠ w.heap.size + 3;omega) _,own_set hv2 (fun e => by have:=(hv2.lt _ e).1;simp only at this;omega) _⟩
       · exact HG7.out.setCell (p:=⟨w.heap.size + 3,0,none⟩) (by show w.heap.size ≤ w.heap.size + 3;omega) _
       · exact htw.trans (Two.fr ((Fr.refl (fun g => g = w.heap.size + 3) W').setCell (p:=⟨w.heap.size + 3,0,none⟩) (.inl rfl) _) hz2 (by omega) (by omega))
       · rw [HNum.out,hw]
         cases numsL (strL R) <;> simp [comb]
      case measure =>
       have hcell:(W'.setCell ⟨w.heap.size + 3,0,none⟩ (.string R)).cell? ⟨w.heap.size + 3,0,none⟩ = some (.string R):=(HG1.out.set_ 0 (.string R)).cell 0
       have hc1:=HC1.out
       simp only [hcell,hc1]
       omega
    · gi_wp2
      refine bodyPost_ret (results_none rfl _ _ _) rfl ?_
      exact ⟨⟨_,rfl⟩,.inr hO⟩
set_option maxHeartbeats 4000000 in
theorem anumbers_any (s:ByteArray) (w:World) (hs:s.size ≤ 1048576):Calls Tryz.prog 54 #[.string s] w (NumsP (strL s) w):=by
 refine (callsIn_wide (n:=4)).1 ?_
 refine callsIn_of_wp_marks Tryz.func54 rfl trivial ?_ rfl
 simp only [Tryz.ntmps54,List.size_toArray,List.length_cons,List.length_nil,Nat.reduceAdd,Nat.reduceSub,Array.replicate_succ,Array.replicate_zero,List.push_toArray,List.append_toArray,List.nil_append,List.cons_append]
 gi_wp2_with (refine ⟨trivial, ?_⟩;gi_at_call 95;refine ((callsIn_wide (n:=3)).2 (splitseq_any s ⟨#[32]⟩ _)).mono ?_;rintro e w1 ⟨rfl,rfl⟩)
 obtain ⟨WL,hWL⟩:∃ W:World,W = (((((w.alloc (.cells #[.slice none 0 0] 93)).alloc (.cells #[.bool false] 4)).alloc (.cells #[.slice none 0 0] 93)).alloc (.cells #[.string s] 9)).alloc (.cells #[.string ⟨#[32]⟩] 9)).alloc (.cells #[.int .i64 0] 3):=⟨_,rfl⟩
 have hz:WL.heap.size = w.heap.size + 6:=by rw [hWL];simp
 have hN:NCells w WL s []:=by
  rw [hWL]
  refine ⟨?_, ?_, ?_, ?_, ?_,⟨.slice none 0 0, ?_,World.ownsRow_nil _ _ _ _⟩, ?_⟩
  · exact (((by simpa using Bk.new (((w.alloc (.cells #[.slice none 0 0] 93)).alloc (.cells #[.bool false] 4)).alloc (.cells #[.slice none 0 0] 93)) 9 #[.string s]:Bk ((((w.alloc (.cells #[.slice none 0 0] 93)).alloc (.cells #[.bool false] 4)).alloc (.cells #[.slice none 0 0] 93)).alloc (.cells #[.string s] 9)) (w.heap.size + 3) 9 #[.string s])).alloc _).alloc _
  · exact ((by simpa using Bk.new ((((w.alloc (.cells #[.slice none 0 0] 93)).alloc (.cells #[.bool false] 4)).alloc (.cells #[.slice none 0 0] 93)).alloc (.cells #[.string s] 9)) 9 #[.string ⟨#[32]⟩]:Bk (((((w.alloc (.cells #[.slice none 0 0] 93)).alloc (.cells #[.bool false] 4)).alloc (.cells #[.slice none 0 0] 93)).alloc (.cells #[.string s] 9)).alloc (.cells #[.string ⟨#[32]⟩] 9)) (w.heap.size + 4) 9 #[.string ⟨#[32]⟩])).alloc _
  · simpa using Bk.new (((((w.alloc (.cells #[.slice none 0 0] 93)).alloc (.cells #[.bool false] 4)).alloc (.cells #[.slice none 0 0] 93)).alloc (.cells #[.string s] 9)).alloc (.cells #[.string ⟨#[32]⟩] 9)) 3 #[.int .i64 0]
  · exact (((((Bk.new w _ _).alloc _).alloc _).alloc _).alloc _).alloc _
  · exact ((((Bk.new1 w _ _ _).alloc _).alloc _).alloc _).alloc _
  · exact (((Bk.new2 w _ _ _ _).alloc _).alloc _).alloc _
  · exact ((((((Below.refl _ w).alloc (Nat.le_refl _) _).alloc (by simp) _).alloc (by simp;omega) _).alloc (by simp;omega) _).alloc (by simp;omega) _).alloc (by simp;omega) _
 rw [← hWL]
 have HN:=hide hN
 have HZ:=hide hz
 clear hWL hN
 refine wpIn_rangeFunc_st (w:=WL) rfl (by decide) (gf:=194) (lb:=#[.pointer (some ⟨w.heap.size + 4,0,none⟩),.pointer (some ⟨w.heap.size + 3,0,none⟩),.pointer (some ⟨w.heap.size + 5,0,none⟩)]) rfl trivial (enters_of Tryz.func194 (by kernel_rfl) rfl)
  (encs:=fun x:NW => #[.string x.word]) (fun _ => rfl)
  (fun x W => NCells w W x.cur x.pre ∧ numsL (strL s) = comb x.pre (wordV (strL x.word)) x.tail ∧ x.word.size ≤ 1048576 ∧ x.pre.length ≤ s.size)
  (fun x W => ∃ n,wordV (strL x.word) = some n ∧ NCells w W x.cur (x.pre ++ [n]))
  (fun c W => c = .ret ∧ numsL (strL s) = none ∧ Bk W w.heap.size 93 #[.slice none 0 0] ∧ Bk W (w.heap.size + 1) 4 #[.bool false] ∧ Below w.heap.size w W)
  (fun W => ∃ pre,numsL (strL s) = some pre ∧ ∃ cur,NCells w W cur pre)
  (fun x W l o o' hI hl ho hc => ⟨hI.1.stays o' ho hc (by omega),hI.2⟩)
  (fun x W l o o' hI hl ho hc => by obtain ⟨n,h1,h2⟩:=hI;exact ⟨n,h1,h2.stays o' ho hc (by omega)⟩)
  (fun c W l o o' hI hl ho hc => ⟨hI.1,hI.2.1,hI.2.2.1.stays o' ho hc,hI.2.2.2.1.stays o' ho hc,below_stays hI.2.2.2.2 o' (by omega)⟩)
  (fun W l o o' hI hl ho hc => by obtain ⟨pre,h1,cur,h2⟩:=hI;exact ⟨pre,h1,cur,h2.stays o' ho hc (by omega)⟩)
  (fun x => { tmps:=#[.string s,undef,.pointer (some ⟨w.heap.size,0,none⟩),.pointer (some ⟨w.heap.size + 1,0,none⟩),.pointer (some ⟨w.heap.size + 2,0,none⟩),.string x.word,undef,undef,.string s,.func (.func 194) #[] #[.pointer (some ⟨w.heap.size + 4,0,none⟩),.pointer (some ⟨w.heap.size + 3,0,none⟩),.pointer (some ⟨w.heap.size + 5,0,none⟩)],.string x.word,undef,undef,undef,undef,undef,undef,undef,undef,undef,undef,undef,undef],defers:=[] }) ?iter ?assign ?body ?done ?stop
 case iter =>
  rintro l W1 ol Out rfl rfl hY
  refine splititer s w WL _ _ 3 (by decide) HZ.out Out hs ?_ (by simp) hY
  obtain ⟨h1,h2,h3,h4,h5,⟨v,h6,h7⟩,h8⟩:=HN.out
  exact ⟨(h1.alloc _).alloc _,(h2.alloc _).alloc _,(h3.alloc _).alloc _,(h4.alloc _).alloc _,(h5.alloc _).alloc _,⟨v,(h6.alloc _).alloc _,(h7.alloc _).alloc _⟩,(h8.alloc h8.size _).alloc (by have:=h8.size;simp;omega) _⟩
 case assign =>
  intro l x W K hK
  gi_wp2
  exact hK
 case body =>
  rintro l x W ⟨hNC,hnum,hxs,hpl⟩ hW
  have hZ:=HZ.out
  obtain ⟨h1,h2,h3,h4,h5,⟨v,h6,h7⟩,h8⟩:=hNC
  have an:=anumber_any x.word W hxs
  unfold NumP at an
  have tw2:∀ W',Below W.heap.size W W' → Two WL.heap.size W W':=fun W' hb => Two.below hb (by omega)
  cases hw:wordV (strL x.word) with
  | none =>
    rw [hw,comb_none] at hnum
    rw [hw] at an
    simp only [] at an
    have HAn:=hide an
    have HNum:=hide hnum
    have H4:=hide h4
    have H5:=hide h5
    have H8:=hide h8
    have HTw:=hide tw2
    clear an hnum h1 h2 h3 h4 h5 h6 h7 h8 hw tw2 hZ hz
    gi_wp2_with (refine ⟨trivial, ?_⟩;gi_at_call 96;refine (CallsIn.inRound l (callsIn_wide.2 HAn.out)).mono ?_;rintro e W5 ⟨rfl,hb5⟩;have hk4:=H4.out.keep hb5;have hk5:=H5.out.keep hb5;have c4:=hk4.cell 0;have c5:=hk5.cell 0;have f4:=hk4.free 0;have f5:=hk5.free 0;have HK4:=hide hk4;have HK5:=hide hk5;have HB5:=hide hb5;clear hk4 hk5 hb5)
    have hZ:=HZ.out
    refine ⟨(HTw.out W5 HB5.out).trans (Two.fr (((Fr.refl (fun g => g = w.heap.size ∨ g = w.heap.size + 1) W5).setCell (p:=⟨w.heap.size,0,none⟩) (.inl (.inl rfl)) _).setCell (p:=⟨w.heap.size + 1,0,none⟩) (.inl (.inr rfl)) _) (by have:=HB5.out.size;omega) (by omega) (by omega)),rfl,HNum.out, ?_, ?_, ?_⟩
    · exact (HK4.out.set_ 0 _).far (p:=⟨w.heap.size + 1,0,none⟩) (by show w.heap.size ≠ w.heap.size + 1;omega) _
    · exact (HK5.out.far (p:=⟨w.heap.size,0,none⟩) (by show w.heap.size + 1 ≠ w.heap.size;omega) _).set_ 0 _
    · exact ((H8.out.trans (HB5.out.mono H8.out.size)).setCell (p:=⟨w.heap.size,0,none⟩) (Nat.le_refl _) _).setCell (p:=⟨w.heap.size + 1,0,none⟩) (by show w.heap.size ≤ w.heap.size + 1;omega) _
  | some n =>
    rw [hw] at an
    simp only [] at an
    obtain ⟨i0,hi,hz0,hz1,hz2⟩:=info_parts info_u64
    obtain ⟨A0,c0,rfl⟩:=own_form3 h7
    have HAn:=hide an
    have HTw:=hide tw2
    have H1:=hide h1
    have H2:=hide h2
    have H3:=hide h3
    have H4:=hide h4
    have H5:=hide h5
    have H6:=hide h6
    have H7:=hide h7
    have H8:=hide h8
    have hpl2:x.pre.length ≤ 1048576:=by omega
    obtain ⟨pre,hpre⟩:∃ p,p = x.pre:=⟨_,rfl⟩
    rw [← hpre] at H6 H7 hpl2 ⊢
    clear an hnum h1 h2 h3 h4 h5 h6 h7 h8 tw2 hZ hz hw hpl hpre
    gi_wp2_with (first
     | (refine ⟨trivial, ?_⟩;gi_at_call 96;refine (CallsIn.inRound l (callsIn_wide.2 HAn.out)).mono ?_;rintro e W5 ⟨rfl,hb5⟩;have hk6:=H6.out.keep hb5;have c6:=hk6.cell 0;have f6:=hk6.free 0;have HK6:=hide hk6;have HO5:=hide (own_fr H7.out (Fr.below hb5 (fun _ => False)) (fun _ _ h => h));have HB5:=hide hb5;clear hk6 hb5)
     | (gi_at_builtin;refine wpListIn_append_own _ rfl (.tmp 18) (.tmp 20) 93 rfl (w.heap.size + 8) 22 i0 (.int .u64 0) 1 8 Tryz.underlying93 hi hz0 hz1 hz2 rfl (by decide) _ _ _ rfl (HO5.out.alloc _) ⟨W5.heap.size,0,none⟩ 1 1 [.int .u64 (n:Nat)] rfl rfl (cell_one_new _ _ _) (by intro u hu;simp at hu;subst hu;rfl) (by unfold maxLen;omega) (by omega) (by have:=HB5.out.size;have:=HZ.out;simp;omega) ?_;intro v3 w3 hown3 hgr3 _
        have hgr4:(W5.alloc (.cells #[.int .u64 (n:Nat)] 22)).grownBy w3 (Value.slice A0 pre.length c0).ownBlock:=hgr3
        have hb3:=((HB5.out.mono (show w.heap.size + 8 ≤ W.heap.size by have:=HZ.out;omega)).alloc (by have:=HB5.out.size;have:=HZ.out;omega) (.cells #[.int .u64 (n:Nat)] 22)).grown hgr4 (by have:=HB5.out.size;have:=HZ.out;simp;omega) (fun g hg => by have:=(HO5.out.lt g hg).1;omega)
        obtain ⟨A3,c3,rfl⟩:=own_form3 hown3
        have hk6b:=H6.out.below hb3 (by omega)
        have c7:=hk6b.cell 0
        have f7:=hk6b.free 0
        have HK6b:=hide hk6b
        have HB3:=hide hb3
        have HO3:=hide hown3
        clear c6 f6 hown3 hgr3 hgr4 hb3 hk6b))
    have hZ:=HZ.out
    have hb4:Below (w.heap.size + 2) W (w3.setCell ⟨w.heap.size + 2,0,none⟩ (.slice A3 (pre.length + 1) c3)):=(HB3.out.mono (show w.heap.size + 2 ≤ w.heap.size + 8 by omega)).setCell (p:=⟨w.heap.size + 2,0,none⟩) (Nat.le_refl _) _
    refine ⟨Two.trans (Two.below HB3.out (by omega)) (Two.fr ((Fr.refl (fun g => g = w.heap.size + 2) w3).setCell (p:=⟨w.heap.size + 2,0,none⟩) (.inl rfl) _) (by have:=HB3.out.size;omega) (by omega) (by omega)),n,rfl, ?_, ?_, ?_, ?_, ?_,⟨_,HK6b.out.set_ 0 _, ?_⟩, ?_⟩
    · exact (H1.out.below HB3.out (by omega)).far (p:=⟨w.heap.size + 2,0,none⟩) (by show w.heap.size + 3 ≠ w.heap.size + 2;omega) _
    · exact (H2.out.below HB3.out (by omega)).far (p:=⟨w.heap.size + 2,0,none⟩) (by show w.heap.size + 4 ≠ w.heap.size + 2;omega) _
    · exact (H3.out.below HB3.out (by omega)).far (p:=⟨w.heap.size + 2,0,none⟩) (by show w.heap.size + 5 ≠ w.heap.size + 2;omega) _
    · exact H4.out.below hb4 (by omega)
    · exact H5.out.below hb4 (by omega)
    · have:=own_set HO3.out (p:=⟨w.heap.size + 2,0,none⟩) (fun e => by have h:w.heap.size + 8 ≤ w.heap.size + 2:=(HO3.out.lt _ e).1;omega) (.slice A3 (pre.length + 1) c3)
      rw [List.length_append,List.map_append]
      exact this
    · exact (H8.out.trans (HB3.out.mono (show w.heap.size ≤ w.heap.size + 8 by omega))).setCell (p:=⟨w.heap.size + 2,0,none⟩) (by show w.heap.size ≤ w.heap.size + 2;omega) _
 case done =>
  rintro W ⟨pre,hnum,cur,hNC⟩ hD
  obtain ⟨h1,h2,h3,h4,h5,⟨v,h6,h7⟩,h8⟩:=hNC
  obtain ⟨A0,c0,rfl⟩:=own_form3 h7
  have c4:=h4.cell 0
  have c5:=h5.cell 0
  have c6:=h6.cell 0
  have f4:=h4.free 0
  have f5:=h5.free 0
  have H4:=hide h4
  have H5:=hide h5
  have H7:=hide h7
  have H8:=hide h8
  have HNum:=hide hnum
  have HD:=hide hD
  clear h1 h2 h3 h4 h5 h6 h7 h8 hnum hD hz
  gi_wp2
  have hd2:((W.setCell ⟨w.heap.size,0,none⟩ (.slice A0 pre.length c0)).setCell ⟨w.heap.size + 1,0,none⟩ (.bool true)).heap[WL.heap.size]? = some (.deferred (some [])):=by
   have hZ:=HZ.out
   rw [Below.heap_setCell _ ⟨w.heap.size + 1,0,none⟩ _ _ (by show WL.heap.size ≠ w.heap.size + 1;omega),Below.heap_setCell _ ⟨w.heap.size,0,none⟩ _ _ (by show WL.heap.size ≠ w.heap.size;omega)]
   exact HD.out
  refine ⟨by simp,.inl ⟨_,_,rfl,run_takeDeferred hd2, ?_⟩⟩
  have r4:=((H4.out.set_ 0 (.slice A0 pre.length c0)).far (p:=⟨w.heap.size + 1,0,none⟩) (by show w.heap.size ≠ w.heap.size + 1;omega) (.bool true)).stays (.deferred none) hd2 rfl
  have r5:=((H5.out.far (p:=⟨w.heap.size,0,none⟩) (by show w.heap.size + 1 ≠ w.heap.size;omega) (.slice A0 pre.length c0)).set_ 0 (.bool true)).stays (.deferred none) hd2 rfl
  have t4:=r4.cell 0
  have t5:=r5.cell 0
  have own4:=own_stays (own_set (own_set H7.out (p:=⟨w.heap.size,0,none⟩) (fun e => by have h:w.heap.size + 8 ≤ w.heap.size:=(H7.out.lt _ e).1;omega) (.slice A0 pre.length c0)) (p:=⟨w.heap.size + 1,0,none⟩) (fun e => by have h:w.heap.size + 8 ≤ w.heap.size + 1:=(H7.out.lt _ e).1;omega) (.bool true)) (.deferred none) hd2 rfl
  refine ⟨.tuple #[.slice A0 pre.length c0,.bool true],by simp [results,Tryz.results54,go_sem,t4,t5], ?_⟩
  refine ⟨.inr ⟨A0,c0,pre,HNum.out,rfl,own_rd own4,fun a ha => by have:=(own4.lt a.block (by subst ha;rfl)).1;omega⟩, ?_⟩
  have hZ:=HZ.out
  exact below_stays ((H8.out.setCell (p:=⟨w.heap.size,0,none⟩) (Nat.le_refl _) _).setCell (p:=⟨w.heap.size + 1,0,none⟩) (by show w.heap.size ≤ w.heap.size + 1;omega) _) _ (by omega)
 case stop =>
  rintro c W ⟨rfl,hnum,hk1,hk2,hbe⟩ hD
  have HK1:=hide hk1
  have HK2:=hide hk2
  have HBe:=hide hbe
  have HNum:=hide hnum
  have HD:=hide hD
  clear hk1 hk2 hbe hnum hD hz
  gi_wp2
  refine ⟨by simp,.inl ⟨_,_,rfl,run_takeDeferred HD.out, ?_⟩⟩
  have t4:=(HK1.out.stays (.deferred none) HD.out rfl).cell 0
  have t5:=(HK2.out.stays (.deferred none) HD.out rfl).cell 0
  refine ⟨.tuple #[.slice none 0 0,.bool false],by simp [results,Tryz.results54,go_sem,t4,t5], ?_⟩
  have hZ:=HZ.out
  exact ⟨.inl ⟨HNum.out,rfl⟩,below_stays HBe.out _ (by omega)⟩
open Go.RowKit
theorem cutN_of (s:ByteArray):(Lib.indexByte s.data.toList 10 = -1 ∧ cutN (strL s) = none) ∨ ∃ k:Nat,Lib.indexByte s.data.toList 10 = (k:Int) ∧ k < s.size ∧ cutN (strL s) = some (strL (s.extract 0 k),strL (s.extract (k + 1) s.size)):=by
 have hge:=Lib.indexByte_ge s.data.toList 10
 by_cases hm:Lib.indexByte s.data.toList 10 = -1
 · left
   refine ⟨hm,cutN_none fun hx => ?_⟩
   obtain ⟨k,hk⟩:=List.getElem?_of_mem hx
   rw [strL_data,List.getElem?_map] at hk
   cases hb:s.data.toList[k]? with
   | none => rw [hb] at hk;cases hk
   | some b =>
     rw [hb] at hk
     have:b = 10:=UInt8.toNat_inj.1 (Option.some.inj hk)
     exact Lib.indexByte_none hm k (by rw [hb,this])
 · right
   obtain ⟨k,hk⟩:∃ k:Nat,Lib.indexByte s.data.toList 10 = (k:Int):=⟨(Lib.indexByte s.data.toList 10).toNat,by omega⟩
   obtain ⟨h1,h2⟩:=Lib.indexByte_some hk
   have hks:k < s.size:=by have:=(List.getElem?_eq_some_iff.1 h1).1;simpa using this
   have hno:10 ∉ (strL s).take k:=fun hm => by
    obtain ⟨j,hj⟩:=List.getElem?_of_mem hm
    have hjk:j < k:=by have:=(List.getElem?_eq_some_iff.1 hj).1;rw [List.length_take] at this;omega
    rw [List.getElem?_take_of_lt hjk,strL_data,List.getElem?_map] at hj
    cases hb:s.data.toList[j]? with
    | none => rw [hb] at hj;cases hj
    | some b =>
      rw [hb] at hj
      have:b = 10:=UInt8.toNat_inj.1 (Option.some.inj hj)
      exact h2 j hjk (by rw [hb,this])
   have hg:(strL s)[k]? = some 10:=by rw [strL_data,List.getElem?_map,h1];rfl
   have:=cutN_at (s:=strL s) (f:=0) (k:=k) (by omega) (by rw [List.drop_zero];exact hno) hg
   rw [List.drop_zero,List.drop_zero] at this
   refine ⟨k,hk,hks, ?_⟩
   have hx:strL (s.extract 0 k) = (strL s).take k:=by rw [strL_sub,List.drop_zero]
   have hy:strL (s.extract (k + 1) s.size) = (strL s).drop (k + 1):=by rw [strL_sub,List.take_of_length_le (by rw [strL_length];exact Nat.le_refl _)]
   rw [this,hx,hy]
theorem cut_no (s:ByteArray) (w:World) (h:Lib.indexByte s.data.toList 10 = -1):Calls Tryz.prog 53 #[.string s,.string ⟨#[10]⟩] w fun e w' => e = .returned (.tuple #[.string s,.string ⟨#[]⟩,.bool false]) ∧ ∃ n,w' = w.drewN n:=by
 have ix:=Tryz.stringslite_Index_one s 10 w
 rw [h] at ix
 have ct:Calls Tryz.prog 94 #[.string s,.string ⟨#[10]⟩] w fun e w' => e = .returned (.tuple #[.string s,.string ⟨#[]⟩,.bool false]) ∧ ∃ n,w' = w.drewN n:=by
  go_enter Tryz.func94,Tryz.ntmps94
  go_wp2_with (go_at_call 140;refine (Calls.mono ix ?_);rintro e w1 ⟨rfl,rfl⟩)
  refine bodyPost_ret (v:=.tuple #[.string s,.string ⟨#[]⟩,.bool false]) (by simp [results,Tryz.results94,go_sem]) rfl ?_
  exact ⟨rfl,0,(World.drewN_zero _).symm⟩
 go_enter Tryz.func53,Tryz.ntmps53
 go_wp2_with (go_at_call 94;refine (Calls.mono ct ?_);rintro e w1 ⟨rfl,n,rfl⟩)
 refine bodyPost_ret (v:=.tuple #[.string s,.string ⟨#[]⟩,.bool false]) (by simp [results,Tryz.results53,go_sem]) rfl ?_
 exact ⟨rfl,n,rfl⟩
theorem cut_yes (s:ByteArray) (k:Nat) (w:World) (hs:s.size ≤ 1048576) (h:Lib.indexByte s.data.toList 10 = (k:Int)) (hk:k < s.size):Calls Tryz.prog 53 #[.string s,.string ⟨#[10]⟩] w fun e w' => e = .returned (.tuple #[.string (s.extract 0 k),.string (s.extract (k + 1) s.size),.bool true]) ∧ ∃ n,w' = w.drewN n:=by
 have ix:=Tryz.stringslite_Index_one s 10 w
 rw [h] at ix
 have ct:Calls Tryz.prog 94 #[.string s,.string ⟨#[10]⟩] w fun e w' => e = .returned (.tuple #[.string (s.extract 0 k),.string (s.extract (k + 1) s.size),.bool true]) ∧ ∃ n,w' = w.drewN n:=by
  have hkI:(0:Int) ≤ (k:Int):=by omega
  obtain ⟨k1,hk1⟩:∃ k1,k1 = k + 1:=⟨_,rfl⟩
  have hk1I:(k:Int) + 1 = (k1:Int):=by omega
  have hk1w:IntKind.i64.wrap (k1:Int) = (k1:Int):=IntWalk.i64_in _ ⟨by omega,by omega⟩
  have hk1l:k1 ≤ s.size:=by omega
  rw [← hk1]
  have HK1:=hide hk1
  clear h hk1
  go_enter Tryz.func94,Tryz.ntmps94
  go_wp2_with (go_at_call 140;refine (Calls.mono ix ?_);rintro e w1 ⟨rfl,rfl⟩)
  go_quiet (fail)
  go_wp2_with fail
  refine bodyPost_ret (v:=.tuple #[.string (s.extract 0 k),.string (s.extract k1 s.size),.bool true]) (by simp [results,Tryz.results94,go_sem]) rfl ?_
  exact ⟨rfl,_,rfl⟩
 go_enter Tryz.func53,Tryz.ntmps53
 go_wp2_with (go_at_call 94;refine (Calls.mono ct ?_);rintro e w1 ⟨rfl,n,rfl⟩)
 refine bodyPost_ret (v:=.tuple #[.string (s.extract 0 k),.string (s.extract (k + 1) s.size),.bool true]) (by simp [results,Tryz.results53,go_sem]) rfl ?_
 exact ⟨rfl,n,rfl⟩
theorem nth_any (g b o n c i:Nat) (x:Nat) (w:World) (h:Bk w g 93 #[.slice (some ⟨b,o,none⟩) n c]) (hx:w.cell? ⟨b,o + i,none⟩ = some (.int .u64 x)) (hi:i < n) (hx63:x < 1000000000000000) :
 Calls Tryz.prog 55 #[.int .i64 i,.pointer (some ⟨g,0,none⟩)] w fun e w' => e = .returned (.int .i64 x) ∧ w' = w:=by
 have c0:w.cell? ⟨g,0,none⟩ = some (.slice (some ⟨b,o,none⟩) n c):=h.cell 0
 clear h
 go_enter Tryz.func55,Tryz.ntmps55
 go_wp2_with fail
 go_ret
 exact ⟨rfl,rfl⟩
set_option maxHeartbeats 8000000 in
theorem aread_any (s:ByteArray) (w:World) (hs:s.size ≤ 1048576):Calls Tryz.prog 22 #[.string s] w (RdP (strL s) w):=by
 obtain ⟨i0,hi,hz0,hz1,hz2i⟩:=info_parts info_stat
 have hmf:∀ (fn:Fn) (first cap:Array Value) (w:World),(Instr.makeFunc fn first cap).run Tryz.prog w = .ok (.func fn first cap) w:=fun _ _ _ _ => rfl
 go_enter Tryz.func22,Tryz.ntmps22
 go_wp2_with fail
 go_loopw [0,5] (fun tx v wr => ∃ (R:ByteArray) (fu:Nat) (acc:List (List Nat)),tx = .string R ∧ R.size ≤ 1048576 ∧ acc.length + R.size ≤ s.size ∧ Hid (R.size < fu ∧ readL (strL s) = readF fu acc (strL R)) ∧ Hid (∀ l ∈ acc,l.length = 6) ∧ Hid (wr.ownsRow (w.heap.size + 1) 53 6 v acc.length (flat6 acc)) ∧ Hid (Bk wr w.heap.size 25 #[.int .u64 0,.int .u64 0,.int .u32 0,.int .u64 0,.int .u64 0]) ∧ Hid (Below w.heap.size w wr)) (fun tx _ _ => match tx with | .string R => R.size | _ => 0)
 case atStart => exact ⟨s,s.size + 1,[],rfl,hs,by simp,hide ⟨by omega,by unfold readL;rw [strL_length]⟩,hide (by simp),hide (World.ownsRow_nil _ _ _ _),hide (Bk.new w _ _),hide ((Below.refl _ _).alloc (Nat.le_refl _) _)⟩
 case round =>
  obtain ⟨R,fu,acc,rfl,hR,hacc,HInv,HSix,hown,HK,HBe⟩:=hrel
  have hz:=HBe.out.size
  have hzk:=HK.out.lt
  obtain ⟨⟨c0,c1,c2,c3,c4⟩,⟨y0,y1,y2,y3,y4⟩⟩:=five_cells HK.out
  have hfin:∀ (W:World),Bk W w.heap.size 25 #[.int .u64 0,.int .u64 0,.int .u32 0,.int .u64 0,.int .u64 0] → Below w.heap.size w W → Bk (((((W.setCell ⟨w.heap.size,0,none⟩ (.int .u64 0)).setCell ⟨w.heap.size,1,none⟩ (.int .u64 0)).setCell ⟨w.heap.size,2,none⟩ (.int .u32 0)).setCell ⟨w.heap.size,3,none⟩ (.int .u64 0)).setCell ⟨w.heap.size,4,none⟩ (.int .u64 0)) w.heap.size 25 #[.int .u64 0,.int .u64 0,.int .u32 0,.int .u64 0,.int .u64 0] ∧ Below w.heap.size w (((((W.setCell ⟨w.heap.size,0,none⟩ (.int .u64 0)).setCell ⟨w.heap.size,1,none⟩ (.int .u64 0)).setCell ⟨w.heap.size,2,none⟩ (.int .u32 0)).setCell ⟨w.heap.size,3,none⟩ (.int .u64 0)).setCell ⟨w.heap.size,4,none⟩ (.int .u64 0)):=fun W h hb =>
   ⟨((((h.set_ 0 (.int .u64 0)).set_ 1 (.int .u64 0)).set_ 2 (.int .u32 0)).set_ 3 (.int .u64 0)).set_ 4 (.int .u64 0),((((hb.setCell (p:=⟨w.heap.size,0,none⟩) (Nat.le_refl _) _).setCell (p:=⟨w.heap.size,1,none⟩) (Nat.le_refl _) _).setCell (p:=⟨w.heap.size,2,none⟩) (Nat.le_refl _) _).setCell (p:=⟨w.heap.size,3,none⟩) (Nat.le_refl _) _).setCell (p:=⟨w.heap.size,4,none⟩) (Nat.le_refl _) _⟩
  have HFin:=hide hfin
  clear hfin
  obtain ⟨g,hg⟩:∃ g,fu = g + 1:=⟨fu - 1,by have:=HInv.out.1;omega⟩
  have hI:=HInv.out.2
  rw [hg,readF] at hI
  have HG:=hide hg
  clear hg
  by_cases h0:R.size = 0
  · have:=size_zero h0
    subst this
    rw [show cutN (strL ⟨#[]⟩) = none from rfl] at hI
    simp only [] at hI
    have HI:=hide hI
    clear hI h0
    go_wp2_with fail
    obtain ⟨t,hb⟩:=HFin.out wr HK.out HBe.out
    obtain ⟨⟨t0,t1,t2,t3,t4⟩,_⟩:=five_cells t
    refine bodyPost_ret (v:=.tuple #[.slice none 0 0,headV ⟨0,0,0,0,0⟩,.int .i64 2]) (by simp [results,Tryz.results22,go_sem,t0,t1,t2,t3,t4,headV]) rfl ?_
    exact ⟨.inl ⟨HI.out,rfl⟩,hb⟩
  · have hE:=not_empty h0
    rcases cutN_of R with ⟨hx,hc⟩ | ⟨k,hx,hk,hc⟩
    · rw [hc] at hI
      simp only [] at hI
      have nu:∀ (W:World),Calls Tryz.prog 54 #[.string R] W fun e w' => ∃ A n c ok,e = .returned (.tuple #[.slice A n c,.bool ok]) ∧ Below W.heap.size W w':=fun W => (anumbers_any R W hR).mono fun e w' ⟨h,hb⟩ => by
       rcases h with ⟨_,h⟩ | ⟨A,c,l,_,h,_⟩
       · exact ⟨_,_,_,_,h,hb⟩
       · exact ⟨_,_,_,_,h,hb⟩
      have ct:=cut_no R wr hx
      have HI:=hide hI
      have HNu:=hide nu
      have HCt:=hide ct
      clear hI nu ct hx hc h0
      go_upto_region 4 with (go_at_call 53;refine (Calls.mono HCt.out ?_);rintro e w1 ⟨rfl,n1,rfl⟩)
      have HKd:Hid (Bk (wr.drewN n1) w.heap.size 25 #[.int .u64 0,.int .u64 0,.int .u32 0,.int .u64 0,.int .u64 0]):=hide HK.out
      have HBd:=hide (below_drewN HBe.out n1)
      obtain ⟨wd,hwd⟩:∃ W,W = wr.drewN n1:=⟨_,rfl⟩
      rw [← hwd] at HKd HBd ⊢
      clear hwd HCt c0 c1 c2 c3 c4 y0 y1 y2 y3 y4
      go_upto_region 5 with (go_at_call 54;refine (Calls.mono (HNu.out _) ?_);rintro e w2 ⟨A2,n2,cc2,ok2,rfl,hb2⟩;have HB2:=hide hb2;clear hb2)
      have k3:=(HKd.out.keep HB2.out).alloc (.cells #[.slice A2 n2 cc2] 93)
      have b3:=(HBd.out.trans (HB2.out.mono HBd.out.size)).alloc (Nat.le_trans HBd.out.size HB2.out.size) (.cells #[.slice A2 n2 cc2] 93)
      obtain ⟨⟨c0,c1,c2,c3,c4⟩,⟨y0,y1,y2,y3,y4⟩⟩:=five_cells k3
      have HK3:=hide k3
      have HB3:=hide b3
      clear k3 b3
      go_wp2_with fail
      obtain ⟨t,hb⟩:=HFin.out _ HK3.out HB3.out
      obtain ⟨⟨t0,t1,t2,t3,t4⟩,_⟩:=five_cells t
      refine bodyPost_ret (v:=.tuple #[.slice none 0 0,headV ⟨0,0,0,0,0⟩,.int .i64 2]) (by simp [results,Tryz.results22,go_sem,t0,t1,t2,t3,t4,headV]) rfl ?_
      exact ⟨.inl ⟨HI.out,rfl⟩,hb⟩
    · rw [hc] at hI
      simp only [] at hI
      have hXs:(R.extract 0 k).size = k:=by rw [ByteArray.size_extract];omega
      have hYs:(R.extract (k + 1) R.size).size = R.size - (k + 1):=by rw [ByteArray.size_extract];omega
      have ct:=cut_yes R k wr hR hx hk
      obtain ⟨X,hX⟩:∃ X,X = R.extract 0 k:=⟨_,rfl⟩
      obtain ⟨Y,hY⟩:∃ Y,Y = R.extract (k + 1) R.size:=⟨_,rfl⟩
      rw [← hX,← hY] at ct hI
      rw [← hX] at hXs
      rw [← hY] at hYs
      have nu:=fun (W:World) => anumbers_any X W (by omega)
      unfold NumsP at nu
      have HCt:=hide ct
      clear hx hc hX hY ct
      go_upto_region 4 with (go_at_call 53;refine (Calls.mono HCt.out ?_);rintro e w1 ⟨rfl,n1,rfl⟩)
      have HKd:Hid (Bk (wr.drewN n1) w.heap.size 25 #[.int .u64 0,.int .u64 0,.int .u32 0,.int .u64 0,.int .u64 0]):=hide HK.out
      have HBd:=hide (below_drewN HBe.out n1)
      have HOd:Hid ((wr.drewN n1).ownsRow (w.heap.size + 1) 53 6 u5 acc.length (flat6 acc)):=hide hown.out
      have hzd:(wr.drewN n1).heap.size = wr.heap.size:=rfl
      obtain ⟨wd,hwd⟩:∃ W,W = wr.drewN n1:=⟨_,rfl⟩
      rw [← hwd] at HKd HBd HOd hzd ⊢
      clear hwd HCt c0 c1 c2 c3 c4 y0 y1 y2 y3 y4
      cases hN:numsL (strL X) with
      | none =>
        rw [hN] at hI
        simp only [] at hI
        have nu2:∀ (W:World),Calls Tryz.prog 54 #[.string X] W fun e w' => e = .returned (.tuple #[.slice none 0 0,.bool false]) ∧ Below W.heap.size W w':=fun W => (nu W).mono fun e w' ⟨h,hb⟩ => by
         rcases h with ⟨_,h⟩ | ⟨_,_,l,hl,_⟩
         · exact ⟨h,hb⟩
         · rw [hN] at hl;cases hl
        have HI:=hide hI
        have HNu:=hide nu2
        clear nu nu2 hI hN
        go_upto_region 5 with (go_at_call 54;refine (Calls.mono (HNu.out _) ?_);rintro e w2 ⟨rfl,hb2⟩;have HB2:=hide hb2;clear hb2)
        have k3:=(HKd.out.keep HB2.out).alloc (.cells #[.slice none 0 0] 93)
        have b3:=(HBd.out.trans (HB2.out.mono HBd.out.size)).alloc (Nat.le_trans HBd.out.size HB2.out.size) (.cells #[.slice none 0 0] 93)
        obtain ⟨⟨c0,c1,c2,c3,c4⟩,⟨y0,y1,y2,y3,y4⟩⟩:=five_cells k3
        have HK3:=hide k3
        have HB3:=hide b3
        clear k3 b3
        go_wp2_with fail
        obtain ⟨t,hb⟩:=HFin.out _ HK3.out HB3.out
        obtain ⟨⟨t0,t1,t2,t3,t4⟩,_⟩:=five_cells t
        refine bodyPost_ret (v:=.tuple #[.slice none 0 0,headV ⟨0,0,0,0,0⟩,.int .i64 2]) (by simp [results,Tryz.results22,go_sem,t0,t1,t2,t3,t4,headV]) rfl ?_
        exact ⟨.inl ⟨HI.out,rfl⟩,hb⟩
      | some l =>
        obtain ⟨hll,hlb⟩:=allV_len (l:=splitL (strL X)) hN
        have nu2:∀ (W:World),Calls Tryz.prog 54 #[.string X] W fun e w' => ∃ A c,e = .returned (.tuple #[.slice A l.length c,.bool true]) ∧ Rd w' w'.heap.size A (l.map u64V) ∧ (∀ a,A = some a → W.heap.size ≤ a.block) ∧ Below W.heap.size W w':=fun W => (nu W).mono fun e w' ⟨h,hb⟩ => by
         rcases h with ⟨hn,_⟩ | ⟨A,c,l',hl,he,hr,hlo⟩
         · rw [hN] at hn;cases hn
         · rw [hN] at hl;cases hl;exact ⟨A,c,he,hr,hlo,hb⟩
        rw [hN] at hI
        simp only [] at hI
        have hYe:strL Y = [] ↔ Y.size = 0:=by
         constructor
         · intro h;rw [← strL_length,h];rfl
         · intro h;exact List.eq_nil_of_length_eq_zero (by rw [strL_length];exact h)
        have HNu:=hide nu2
        have HLb:=hide hlb
        clear nu nu2 hN hll hlb
        by_cases h4:Y.size = 0 ∧ l.length = 4
        · rw [if_pos ⟨hYe.2 h4.1,h4.2⟩] at hI
          have:=size_zero h4.1
          subst this
          obtain ⟨n0,n1,n2,n3,rfl⟩:=four_of h4.2
          have HI:=hide hI
          have hlb4:=HLb.out
          clear hI h4 hYe
          go_upto_region 5 with (go_at_call 54;refine (Calls.mono (HNu.out _) ?_);rintro e w2 ⟨A2,cc2,rfl,hr2,hlo2,hb2⟩;have HB2:=hide hb2;have HR2:=hide hr2;clear hb2 hr2)
          obtain ⟨b2,o2,hA2,hbl2,x0⟩:=HR2.out 0 (.int .u64 (n0:Nat)) rfl
          subst hA2
          have gx:=fun (j:Nat) (u:Value) (h:([n0,n1,n2,n3].map u64V)[j]? = some u) => show w2.cell? ⟨b2,o2 + j,none⟩ = some u from by
           obtain ⟨b3,o3,hA3,_,hc⟩:=HR2.out j u h
           simp only [Option.some.injEq,Addr.mk.injEq,and_true] at hA3
           obtain ⟨rfl,rfl⟩:=hA3
           exact hc
          have x1:=gx 1 (.int .u64 (n1:Nat)) rfl
          have x2:=gx 2 (.int .u64 (n2:Nat)) rfl
          have x3:=gx 3 (.int .u64 (n3:Nat)) rfl
          rw [Nat.add_zero] at x0
          clear gx
          have hlo3:wr.heap.size ≤ b2:=by have:=hlo2 _ rfl;simp only at this;omega
          have hne:b2 ≠ w.heap.size:=by omega
          have hw2:w.heap.size < w2.heap.size:=by have:=HB2.out.size;omega
          have hne2:w2.heap.size ≠ w.heap.size:=by omega
          have k3:=(HKd.out.keep HB2.out).alloc (.cells #[.slice (some ⟨b2,o2,none⟩) 4 cc2] 93)
          have b3:=(HBd.out.trans (HB2.out.mono HBd.out.size)).alloc (Nat.le_trans HBd.out.size HB2.out.size) (.cells #[.slice (some ⟨b2,o2,none⟩) 4 cc2] 93)
          have o3:=(own_fr HOd.out (Fr.below HB2.out (fun _ => False)) (fun _ _ h => h)).alloc (.cells #[.slice (some ⟨b2,o2,none⟩) 4 cc2] 93)
          have x4:(w2.alloc (.cells #[.slice (some ⟨b2,o2,none⟩) 4 cc2] 93)).cell? ⟨w2.heap.size,0,none⟩ = some (.slice (some ⟨b2,o2,none⟩) 4 cc2):=(Bk.new w2 93 #[.slice (some ⟨b2,o2,none⟩) 4 cc2]).cell 0
          have hbk:(w2.alloc (.cells #[.slice (some ⟨b2,o2,none⟩) 4 cc2] 93)).heap[b2]? = w2.heap[b2]?:=Below.heap_alloc w2 _ b2 hbl2
          have HSx:=hide (show ∀ W:World,(∀ k,(k = b2 ∨ k = w2.heap.size) → W.heap[k]? = (w2.alloc (.cells #[.slice (some ⟨b2,o2,none⟩) 4 cc2] 93)).heap[k]?) → (W.cell? ⟨w2.heap.size,0,none⟩ = some (.slice (some ⟨b2,o2,none⟩) 4 cc2) ∧ W.cell? ⟨b2,o2,none⟩ = some (.int .u64 (n0:Nat)) ∧ W.cell? ⟨b2,o2 + 1,none⟩ = some (.int .u64 (n1:Nat)) ∧ W.cell? ⟨b2,o2 + 2,none⟩ = some (.int .u64 (n2:Nat)) ∧ W.cell? ⟨b2,o2 + 3,none⟩ = some (.int .u64 (n3:Nat))) from fun W h => by
           have hb:=(h b2 (.inl rfl)).trans hbk
           exact ⟨(World.cell?_of_block (h _ (.inr rfl))).trans x4,(World.cell?_of_block hb).trans x0,(World.cell?_of_block hb).trans x1,(World.cell?_of_block hb).trans x2,(World.cell?_of_block hb).trans x3⟩)
          obtain ⟨W3,hW3⟩:∃ W,W = w2.alloc (.cells #[.slice (some ⟨b2,o2,none⟩) 4 cc2] 93):=⟨_,rfl⟩
          obtain ⟨g9,hg9⟩:∃ g,g = w2.heap.size:=⟨_,rfl⟩
          rw [← hW3] at k3 b3 o3 HSx ⊢
          rw [← hg9] at HSx hne2 ⊢
          have HK3:=hide k3
          have HB3:=hide b3
          have HO3:=hide o3
          clear k3 b3 o3 x0 x1 x2 x3 x4 hbk hW3 hg9 HB2 HR2 hlo2 hbl2 HKd HBd HOd HNu hw2
          have hset:∀ k,(k = b2 ∨ k = g9) → k ≠ w.heap.size:=fun k hk => by rcases hk with rfl | rfl;exact hne;exact hne2
          obtain ⟨q4,q0,q1,q2,q3⟩:=HSx.out W3 (fun k _ => rfl)
          obtain ⟨⟨c0,c1,c2,c3,c4⟩,⟨y0,y1,y2,y3,y4⟩⟩:=five_cells HK3.out
          go_upto_region 8 with fail
          obtain ⟨r4,r0,r1,r2,r3⟩:=HSx.out W3.drew (fun k _ => rfl)
          obtain ⟨s4,s0,s1,s2,s3⟩:=HSx.out (((((W3.drew.setCell ⟨w.heap.size,0,none⟩ (.int .u64 (n0:Nat))).setCell ⟨w.heap.size,1,none⟩ (.int .u64 (n1:Nat))).setCell ⟨w.heap.size,2,none⟩ (.int .u32 0)).setCell ⟨w.heap.size,3,none⟩ (.int .u64 (n2:Nat))).setCell ⟨w.heap.size,4,none⟩ (.int .u64 (n3:Nat))) (fun k hk => (Below.heap_setCell _ _ _ _ (hset k hk)).trans ((Below.heap_setCell _ _ _ _ (hset k hk)).trans ((Below.heap_setCell _ _ _ _ (hset k hk)).trans ((Below.heap_setCell _ _ _ _ (hset k hk)).trans (Below.heap_setCell _ _ _ _ (hset k hk))))))
          obtain ⟨d4,d0,d1,d2,d3⟩:=HSx.out ((((((W3.setCell ⟨w.heap.size,0,none⟩ (.int .u64 (n0:Nat))).setCell ⟨w.heap.size,1,none⟩ (.int .u64 (n1:Nat))).setCell ⟨w.heap.size,2,none⟩ (.int .u32 0)).setCell ⟨w.heap.size,3,none⟩ (.int .u64 (n2:Nat))).setCell ⟨w.heap.size,4,none⟩ (.int .u64 (n3:Nat))).drew) (fun k hk => (Below.heap_setCell _ _ _ _ (hset k hk)).trans ((Below.heap_setCell _ _ _ _ (hset k hk)).trans ((Below.heap_setCell _ _ _ _ (hset k hk)).trans ((Below.heap_setCell _ _ _ _ (hset k hk)).trans (Below.heap_setCell _ _ _ _ (hset k hk))))))
          go_region_held3 (fun w' => (w'.cell? ⟨g9,0,none⟩ = some (.slice (some ⟨b2,o2,none⟩) 4 cc2) ∧ w'.cell? ⟨b2,o2,none⟩ = some (.int .u64 (n0:Nat)) ∧ w'.cell? ⟨b2,o2 + 1,none⟩ = some (.int .u64 (n1:Nat)) ∧ w'.cell? ⟨b2,o2 + 2,none⟩ = some (.int .u64 (n2:Nat)) ∧ w'.cell? ⟨b2,o2 + 3,none⟩ = some (.int .u64 (n3:Nat)))) (first | with_reducible exact ⟨r4,r0,r1,r2,r3⟩ | with_reducible exact ⟨s4,s0,s1,s2,s3⟩ | with_reducible exact ⟨d4,d0,d1,d2,d3⟩) (fail)
          go_wp2_with fail
          obtain ⟨⟨t0,t1,t2,t3,t4⟩,_⟩:=five_cells (show Bk ((((((W3.setCell ⟨w.heap.size,0,none⟩ (.int .u64 (n0:Nat))).setCell ⟨w.heap.size,1,none⟩ (.int .u64 (n1:Nat))).setCell ⟨w.heap.size,2,none⟩ (.int .u32 0)).setCell ⟨w.heap.size,3,none⟩ (.int .u64 (n2:Nat))).setCell ⟨w.heap.size,4,none⟩ (.int .u64 (n3:Nat))).drew) w.heap.size 25 #[(.int .u64 (n0:Nat)),(.int .u64 (n1:Nat)),(.int .u32 0),(.int .u64 (n2:Nat)),(.int .u64 (n3:Nat))] from (((((HK3.out.set_ 0 (.int .u64 (n0:Nat))).set_ 1 (.int .u64 (n1:Nat))).set_ 2 (.int .u32 0)).set_ 3 (.int .u64 (n2:Nat))).set_ 4 (.int .u64 (n3:Nat))))
          obtain ⟨Ao,co,hu5⟩:=own_formG HO3.out
          have hnw:u5.ownBlock ≠ some w.heap.size:=fun h => by have:=(HO3.out.lt _ h).1;omega
          have hown5:World.ownsRow ((((((W3.setCell ⟨w.heap.size,0,none⟩ (.int .u64 (n0:Nat))).setCell ⟨w.heap.size,1,none⟩ (.int .u64 (n1:Nat))).setCell ⟨w.heap.size,2,none⟩ (.int .u32 0)).setCell ⟨w.heap.size,3,none⟩ (.int .u64 (n2:Nat))).setCell ⟨w.heap.size,4,none⟩ (.int .u64 (n3:Nat))).drew) (w.heap.size + 1) 53 6 (.slice Ao acc.length co) acc.length (flat6 acc):=by rw [← hu5];exact (own_set (own_set (own_set (own_set (own_set HO3.out (p:=⟨w.heap.size,0,none⟩) hnw _) (p:=⟨w.heap.size,1,none⟩) hnw _) (p:=⟨w.heap.size,2,none⟩) hnw _) (p:=⟨w.heap.size,3,none⟩) hnw _) (p:=⟨w.heap.size,4,none⟩) hnw _)
          refine bodyPost_ret (v:=.tuple #[u5,headV (hd4 [n0,n1,n2,n3]),.int .i64 0]) (by simp [results,Tryz.results22,go_sem,t0,t1,t2,t3,t4,headV,hd4]) rfl ?_
          exact ⟨.inr ⟨Ao,co,acc,[n0,n1,n2,n3],HI.out,rfl,hlb4,HSix.out,by rw [hu5],own_rdG hown5⟩,(((((HB3.out.setCell (p:=⟨w.heap.size,0,none⟩) (Nat.le_refl _) _).setCell (p:=⟨w.heap.size,1,none⟩) (Nat.le_refl _) _).setCell (p:=⟨w.heap.size,2,none⟩) (Nat.le_refl _) _).setCell (p:=⟨w.heap.size,3,none⟩) (Nat.le_refl _) _).setCell (p:=⟨w.heap.size,4,none⟩) (Nat.le_refl _) _).drew⟩
        · rw [if_neg (fun h => h4 ⟨hYe.1 h.1,h.2⟩)] at hI
          by_cases h6:l.length = 6
          · rw [if_pos h6] at hI
            obtain ⟨n0,n1,n2,n3,n4,n5,rfl⟩:=six_of h6
            have HI:=hide hI
            have hsY:Y.toList.isEmpty = true ∨ Y.toList.isEmpty = false:=by cases Y.toList.isEmpty <;> simp
            clear hI h4 h6 hYe
            go_upto_region 5 with (go_at_call 54;refine (Calls.mono (HNu.out _) ?_);rintro e w2 ⟨A2,cc2,rfl,hr2,hlo2,hb2⟩;have HB2:=hide hb2;have HR2:=hide hr2;clear hb2 hr2)
            obtain ⟨b2,o2,hA2,hbl2,x0⟩:=HR2.out 0 (.int .u64 (n0:Nat)) rfl
            subst hA2
            have hgx:∀ (j:Nat) (u:Value),([n0,n1,n2,n3,n4,n5].map u64V)[j]? = some u → w2.cell? ⟨b2,o2 + j,none⟩ = some u:=fun j u h => by
             obtain ⟨b3,o3,hA3,_,hc⟩:=HR2.out j u h
             simp only [Option.some.injEq,Addr.mk.injEq,and_true] at hA3
             obtain ⟨rfl,rfl⟩:=hA3
             exact hc
            have k3:=(HKd.out.keep HB2.out).alloc (.cells #[.slice (some ⟨b2,o2,none⟩) 6 cc2] 93)
            have b3:=(HBd.out.trans (HB2.out.mono HBd.out.size)).alloc (Nat.le_trans HBd.out.size HB2.out.size) (.cells #[.slice (some ⟨b2,o2,none⟩) 6 cc2] 93)
            have o3:=(own_fr HOd.out (Fr.below HB2.out (fun _ => False)) (fun _ _ h => h)).alloc (.cells #[.slice (some ⟨b2,o2,none⟩) 6 cc2] 93)
            have bx:=Bk.new w2 93 #[.slice (some ⟨b2,o2,none⟩) 6 cc2]
            have hbk:∀ j,(w2.alloc (.cells #[.slice (some ⟨b2,o2,none⟩) 6 cc2] 93)).cell? ⟨b2,o2 + j,none⟩ = w2.cell? ⟨b2,o2 + j,none⟩:=fun j => World.cell?_of_block (Below.heap_alloc w2 _ b2 hbl2)
            obtain ⟨W3,hW3⟩:∃ W,W = w2.alloc (.cells #[.slice (some ⟨b2,o2,none⟩) 6 cc2] 93):=⟨_,rfl⟩
            obtain ⟨g9,hg9⟩:∃ g,g = w2.heap.size:=⟨_,rfl⟩
            rw [← hW3] at k3 b3 o3 bx hbk ⊢
            rw [← hg9] at bx ⊢
            have e0:n0 < 1000000000000000:=HLb.out n0 (by simp)
            have e1:n1 < 1000000000000000:=HLb.out n1 (by simp)
            have e2:n2 < 1000000000000000:=HLb.out n2 (by simp)
            have e3:n3 < 1000000000000000:=HLb.out n3 (by simp)
            have e4:n4 < 1000000000000000:=HLb.out n4 (by simp)
            have e5:n5 < 1000000000000000:=HLb.out n5 (by simp)
            have a0:Calls Tryz.prog 55 #[.int .i64 0,.pointer (some ⟨g9,0,none⟩)] W3 fun e w' => e = .returned (.int .i64 n0) ∧ w' = W3:=nth_any g9 b2 o2 6 cc2 0 n0 W3 bx ((hbk 0).trans (hgx 0 _ rfl)) (by decide) e0
            have a1:Calls Tryz.prog 55 #[.int .i64 1,.pointer (some ⟨g9,0,none⟩)] W3 fun e w' => e = .returned (.int .i64 n1) ∧ w' = W3:=nth_any g9 b2 o2 6 cc2 1 n1 W3 bx ((hbk 1).trans (hgx 1 _ rfl)) (by decide) e1
            have a2:Calls Tryz.prog 55 #[.int .i64 2,.pointer (some ⟨g9,0,none⟩)] W3 fun e w' => e = .returned (.int .i64 n2) ∧ w' = W3:=nth_any g9 b2 o2 6 cc2 2 n2 W3 bx ((hbk 2).trans (hgx 2 _ rfl)) (by decide) e2
            have a3:Calls Tryz.prog 55 #[.int .i64 3,.pointer (some ⟨g9,0,none⟩)] W3 fun e w' => e = .returned (.int .i64 n3) ∧ w' = W3:=nth_any g9 b2 o2 6 cc2 3 n3 W3 bx ((hbk 3).trans (hgx 3 _ rfl)) (by decide) e3
            have a4:Calls Tryz.prog 55 #[.int .i64 4,.pointer (some ⟨g9,0,none⟩)] W3 fun e w' => e = .returned (.int .i64 n4) ∧ w' = W3:=nth_any g9 b2 o2 6 cc2 4 n4 W3 bx ((hbk 4).trans (hgx 4 _ rfl)) (by decide) e4
            have a5:Calls Tryz.prog 55 #[.int .i64 5,.pointer (some ⟨g9,0,none⟩)] W3 fun e w' => e = .returned (.int .i64 n5) ∧ w' = W3:=nth_any g9 b2 o2 6 cc2 5 n5 W3 bx ((hbk 5).trans (hgx 5 _ rfl)) (by decide) e5
            obtain ⟨z0,_⟩:=(⟨bx.cell 0,trivial⟩:W3.cell? ⟨g9,0,none⟩ = some (.slice (some ⟨b2,o2,none⟩) 6 cc2) ∧ True)
            obtain ⟨⟨c0,c1,c2,c3,c4⟩,⟨y0,y1,y2,y3,y4⟩⟩:=five_cells k3
            have HA0:=hide a0
            have HA1:=hide a1
            have HA2:=hide a2
            have HA3:=hide a3
            have HA4:=hide a4
            have HA5:=hide a5
            have HK3:=hide k3
            have HB3:=hide b3
            have HO3:=hide o3
            obtain ⟨A0,c00,hu5⟩:=own_formG HO3.out
            subst hu5
            clear a0 a1 a2 a3 a4 a5 k3 b3 o3 x0 bx hbk hgx hW3 hg9 HB2 HR2 hlo2 hbl2 HKd HBd HOd HNu HLb
            have hacl:acc.length ≤ 1048576:=by omega
            rcases hsY with hYE | hYE
            · go_wp2_with (first
               | (go_at_call 55;refine (Calls.mono HA0.out ?_);clear HA0;rintro e W3 ⟨rfl,rfl⟩)
               | (go_at_call 55;refine (Calls.mono HA1.out ?_);clear HA1;rintro e W3 ⟨rfl,rfl⟩)
               | (go_at_call 55;refine (Calls.mono HA2.out ?_);clear HA2;rintro e W3 ⟨rfl,rfl⟩)
               | (go_at_call 55;refine (Calls.mono HA3.out ?_);clear HA3;rintro e W3 ⟨rfl,rfl⟩)
               | (go_at_call 55;refine (Calls.mono HA4.out ?_);clear HA4;rintro e W3 ⟨rfl,rfl⟩)
               | (go_at_call 55;refine (Calls.mono HA5.out ?_);clear HA5;rintro e W3 ⟨rfl,rfl⟩)
               | (at_builtin;refine wpList_append_own _ rfl (.tmp 61) (.tmp 75) 46 rfl (w.heap.size + 1) 53 i0 _ 6 48 Tryz.underlying46 hi hz0 hz1 hz2i rfl (by decide) _ acc.length (flat6 acc) rfl (HO3.out.alloc _) ⟨W3.heap.size,0,none⟩ 1 1 [.int .i64 (n0:Nat),.int .i64 (n1:Nat),.int .i64 (n2:Nat),.int .i64 (n3:Nat),.int .i64 (n4:Nat),.int .i64 (n5:Nat)] rfl rfl (fun j u hj => (by rw [Addr.add_lit,Nat.zero_add];exact ((Bk.new _ _ _).cell j).trans (by simpa using hj))) (by intro u hu;simp at hu;rcases hu with rfl | rfl | rfl | rfl | rfl | rfl <;> rfl) (by unfold maxLen;omega) (by omega) (by have:=HK3.out.lt;simp;omega) ?_;intro v4 w4 hown4 hgr4 _;have hne4:some w.heap.size ≠ (Value.slice A0 acc.length c00).ownBlock:=fun e => (by have:=(HO3.out.lt _ e.symm).1;omega);have hk4:=hide ((HK3.out.alloc (.cells #[.int .i64 (n0:Nat),.int .i64 (n1:Nat),.int .i64 (n2:Nat),.int .i64 (n3:Nat),.int .i64 (n4:Nat),.int .i64 (n5:Nat)] 53)).grown hgr4 hne4);have hbe4:=hide ((HB3.out.alloc HB3.out.size (.cells #[.int .i64 (n0:Nat),.int .i64 (n1:Nat),.int .i64 (n2:Nat),.int .i64 (n3:Nat),.int .i64 (n4:Nat),.int .i64 (n5:Nat)] 53)).grown hgr4 (by have:=HB3.out.size;simp;omega) (fun g hg => (by have:=(HO3.out.lt g hg).1;omega)));obtain ⟨A4,c4',rfl⟩:=own_formG hown4;have hO4:=hide hown4;clear hown4 hgr4 hne4))
              go_roundw
              case rel => exact ⟨Y,g,acc ++ [[n0,n1,n2,n3,n4,n5]],rfl,by omega,by rw [List.length_append];simp only [List.length_cons,List.length_nil];omega,hide ⟨by have:=HInv.out.1;have:=HG.out;omega,HI.out⟩,hide (fun x hx => by rcases List.mem_append.1 hx with hx | hx;exact HSix.out x hx;rw [List.mem_singleton.1 hx];rfl),hide (by rw [flat6_snoc,List.length_append];exact hO4.out),hk4,hbe4⟩
              case measure => simp;omega
            · go_wp2_with (first
               | (go_at_call 55;refine (Calls.mono HA0.out ?_);clear HA0;rintro e W3 ⟨rfl,rfl⟩)
               | (go_at_call 55;refine (Calls.mono HA1.out ?_);clear HA1;rintro e W3 ⟨rfl,rfl⟩)
               | (go_at_call 55;refine (Calls.mono HA2.out ?_);clear HA2;rintro e W3 ⟨rfl,rfl⟩)
               | (go_at_call 55;refine (Calls.mono HA3.out ?_);clear HA3;rintro e W3 ⟨rfl,rfl⟩)
               | (go_at_call 55;refine (Calls.mono HA4.out ?_);clear HA4;rintro e W3 ⟨rfl,rfl⟩)
               | (go_at_call 55;refine (Calls.mono HA5.out ?_);clear HA5;rintro e W3 ⟨rfl,rfl⟩)
               | (at_builtin;refine wpList_append_own _ rfl (.tmp 61) (.tmp 75) 46 rfl (w.heap.size + 1) 53 i0 _ 6 48 Tryz.underlying46 hi hz0 hz1 hz2i rfl (by decide) _ acc.length (flat6 acc) rfl (HO3.out.alloc _) ⟨W3.heap.size,0,none⟩ 1 1 [.int .i64 (n0:Nat),.int .i64 (n1:Nat),.int .i64 (n2:Nat),.int .i64 (n3:Nat),.int .i64 (n4:Nat),.int .i64 (n5:Nat)] rfl rfl (fun j u hj => (by rw [Addr.add_lit,Nat.zero_add];exact ((Bk.new _ _ _).cell j).trans (by simpa using hj))) (by intro u hu;simp at hu;rcases hu with rfl | rfl | rfl | rfl | rfl | rfl <;> rfl) (by unfold maxLen;omega) (by omega) (by have:=HK3.out.lt;simp;omega) ?_;intro v4 w4 hown4 hgr4 _;have hne4:some w.heap.size ≠ (Value.slice A0 acc.length c00).ownBlock:=fun e => (by have:=(HO3.out.lt _ e.symm).1;omega);have hk4:=hide ((HK3.out.alloc (.cells #[.int .i64 (n0:Nat),.int .i64 (n1:Nat),.int .i64 (n2:Nat),.int .i64 (n3:Nat),.int .i64 (n4:Nat),.int .i64 (n5:Nat)] 53)).grown hgr4 hne4);have hbe4:=hide ((HB3.out.alloc HB3.out.size (.cells #[.int .i64 (n0:Nat),.int .i64 (n1:Nat),.int .i64 (n2:Nat),.int .i64 (n3:Nat),.int .i64 (n4:Nat),.int .i64 (n5:Nat)] 53)).grown hgr4 (by have:=HB3.out.size;simp;omega) (fun g hg => (by have:=(HO3.out.lt g hg).1;omega)));obtain ⟨A4,c4',rfl⟩:=own_formG hown4;have hO4:=hide hown4;clear hown4 hgr4 hne4))
              go_roundw
              case rel => exact ⟨Y,g,acc ++ [[n0,n1,n2,n3,n4,n5]],rfl,by omega,by rw [List.length_append];simp only [List.length_cons,List.length_nil];omega,hide ⟨by have:=HInv.out.1;have:=HG.out;omega,HI.out⟩,hide (fun x hx => by rcases List.mem_append.1 hx with hx | hx;exact HSix.out x hx;rw [List.mem_singleton.1 hx];rfl),hide (by rw [flat6_snoc,List.length_append];exact hO4.out),hk4,hbe4⟩
              case measure => simp;omega
          · rw [if_neg h6] at hI
            have HI:=hide hI
            have d6:((l.length:Int) != 6) = true:=by simp;omega
            have hsY:(Y.toList.isEmpty = true ∧ ((l.length:Int) == 4) = false) ∨ Y.toList.isEmpty = false:=by
             by_cases hy:Y.size = 0
             · left
               refine ⟨?_, ?_⟩
               · have:=size_zero hy;subst this;rw [Lib.toList_data];rfl
               · have:l.length ≠ 4:=fun e => h4 ⟨hy,e⟩
                 simp;omega
             · exact .inr (not_empty hy)
            clear hI h4 hYe
            go_upto_region 5 with (go_at_call 54;refine (Calls.mono (HNu.out _) ?_);rintro e w2 ⟨A2,cc2,rfl,hr2,hlo2,hb2⟩;have HB2:=hide hb2;clear hb2 hr2)
            have k3:=(HKd.out.keep HB2.out).alloc (.cells #[.slice A2 l.length cc2] 93)
            have b3:=(HBd.out.trans (HB2.out.mono HBd.out.size)).alloc (Nat.le_trans HBd.out.size HB2.out.size) (.cells #[.slice A2 l.length cc2] 93)
            have z0:(w2.alloc (.cells #[.slice A2 l.length cc2] 93)).cell? ⟨w2.heap.size,0,none⟩ = some (.slice A2 l.length cc2):=(Bk.new w2 93 #[.slice A2 l.length cc2]).cell 0
            obtain ⟨⟨c0,c1,c2,c3,c4⟩,⟨y0,y1,y2,y3,y4⟩⟩:=five_cells k3
            have HK3:=hide k3
            have HB3:=hide b3
            clear k3 b3 hlo2
            rcases hsY with ⟨hYE,d4⟩ | hYE
            · go_wp2_with fail
              obtain ⟨t,hb⟩:=HFin.out _ HK3.out HB3.out
              obtain ⟨⟨t0,t1,t2,t3,t4⟩,_⟩:=five_cells t
              refine bodyPost_ret (v:=.tuple #[.slice none 0 0,headV ⟨0,0,0,0,0⟩,.int .i64 2]) (by simp [results,Tryz.results22,go_sem,t0,t1,t2,t3,t4,headV]) rfl ?_
              exact ⟨.inl ⟨HI.out,rfl⟩,hb⟩
            · go_wp2_with fail
              obtain ⟨t,hb⟩:=HFin.out _ HK3.out HB3.out
              obtain ⟨⟨t0,t1,t2,t3,t4⟩,_⟩:=five_cells t
              refine bodyPost_ret (v:=.tuple #[.slice none 0 0,headV ⟨0,0,0,0,0⟩,.int .i64 2]) (by simp [results,Tryz.results22,go_sem,t0,t1,t2,t3,t4,headV]) rfl ?_
              exact ⟨.inl ⟨HI.out,rfl⟩,hb⟩
end Go.Proofs.YtcfnjpokfodmoaaGreatDoor
