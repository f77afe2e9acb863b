/- Lemmas for the row: DocBase, DocZer, DocZerB. -/
import Derived.Test.YtcfnjpokfodmoaaGreatDoorM10
import Derived.Laws.AppendOwnNone
set_option maxRecDepth 100000
set_option linter.unusedVariables false
namespace Go.Proofs.YtcfnjpokfodmoaaGreatDoor
open Go.RowKit
theorem wpList_append_rd {P:Program} {w:World} {ops:Array Oper} {rest:List Oper} {o:Oper} {a:Act} {Q:Exit → Act → World → Prop} (hgd:o.guard = none) (s x:Operand) (t:TypeId)
 (ho:o.op = .call { callee:=.builtin .append,args:=#[s,x],argTypes:=#[t,t] })
 (base:Nat) (e:TypeId) (i:TypeInfo) (z:Value) (size bytes:Nat) (ht:P.underlying t = some (.slice e)) (hi:P.info? e = some i) (hz:i.zero = some z)
 (hsize:i.size = size) (hby:i.bytes = bytes) (hzs:z.cells.size = size) (hsz:0 < size)
 (v:Value) (n:Nat) (xs:List Value) (hs:a.eval s = v) (hown:w.ownsRow base e size v n xs)
 (A:Option Addr) (m c:Nat) (news:List Value) (hx:a.eval x = .slice A m c) (hA:A = none → c = 0) (hl:news.length = m * size) (hr:Rd w w.heap.size A news) (h1:∀ u ∈ news,u.oneCell' = true)
 (h63:n + m ≤ maxLen) (hbytes:(n + m) * bytes ≤ 140737488355328) (hbase:base ≤ w.heap.size)
 (h:∀ v' w',w'.ownsRow base e size v' (n + m) (xs ++ news) → w.grownBy w' v.ownBlock → wpList P ops Q rest (a.put o.dst v') w'):wpList P ops Q (o :: rest) a w:=by
 cases A with
 | some ad =>
   exact wpList_append_own w hgd s x t ho base e i z size bytes ht hi hz hsize hby hzs hsz v n xs hs hown ad m c news hx hl (fun j u hu => by
    obtain ⟨b,off,e',_,hc⟩:=hr j u hu
    cases e'
    rw [Addr.add_lit];exact hc) h1 h63 hbytes hbase (fun v' w' a1 a2 _ => h v' w' a1 a2)
 | none =>
   obtain rfl:=hA rfl
   obtain rfl:news = []:=by
    cases news with
    | nil => rfl
    | cons u us => obtain ⟨b,off,e',_⟩:=hr 0 u rfl;cases e'
   obtain rfl:m = 0:=by
    rcases Nat.mul_eq_zero.1 (show m * size = 0 by rw [← hl];rfl) with h | h
    · exact h
    · omega
   rw [List.append_nil] at h
   exact wpList_append_own_none hgd s x t ho base e i size ht hi v n xs hs hown hx (h v w hown ⟨rfl,rfl,rfl,Nat.le_refl _,fun _ _ _ => rfl⟩)
theorem own_none {w:World} {base e size n m c:Nat} {A:Option Addr} {xs:List Value} (h:w.ownsRow base e size (.slice A m c) n xs):A = none → c = 0:=by
 rintro rfl
 rcases h.2 with ⟨hv,_⟩ | ⟨g,cap,cur,hv,_⟩
 · simp only [Value.slice.injEq] at hv
   exact hv.2.2
 · simp at hv
set_option maxHeartbeats 1000000 in
theorem refDigits_any (n:Nat) (w:World) (hl:n ≤ 1000000000) :
 Calls Tryz.prog 213 #[.int .u64 n] w fun e w' => ∃ A c,e = .returned (.slice A (digitsL n).length c) ∧ (A = none → c = 0) ∧ Rd w' w'.heap.size A ((digitsL n).map u64V) ∧ Below w.heap.size w w':=by
 obtain ⟨i0,hi,hz0,hz1,hz2⟩:=info_parts info_u64
 go_enter Tryz.func213,Tryz.ntmps213
 go_wp2_with fail
 go_loopw [0,3] (fun i v wr => ∃ (ys:List Nat) (m:Nat),i = .int .u64 m ∧ Hid (ys ++ digitsL m = digitsL n) ∧ ys.length + m ≤ 1000000000 ∧ Hid (wr.ownsRow w.heap.size 22 1 v ys.length (ys.map u64V)) ∧ Below w.heap.size w wr) (fun i _ _ => (intOf i).toNat)
 case atStart => exact ⟨[],n,rfl,hide rfl,by simpa using hl,hide (World.ownsRow_nil _ _ _ _),Below.refl _ _⟩
 case round =>
  obtain ⟨ys,m,rfl,hys,hlm,hown,hbe⟩:=hrel
  have hz:=hbe.size
  by_cases h0:m = 0
  · subst h0
    have hf:=own_form3 hown.out
    have HO3:=hide hown.out
    have HY:=hide (show ys = digitsL n by rw [← hys.out,digitsL_zero,List.append_nil])
    clear hown hys
    obtain ⟨A',c',rfl⟩:=hf
    go_wp2_with fail
    go_ret
    refine ⟨A',c', ?_⟩
    rw [← HY.out]
    exact ⟨rfl,own_none HO3.out,(own_rdN HO3.out).1,hbe⟩
  · have HS:=hide (digitsL_pos (n:=m) (by omega))
    by_cases hodd:m % 2 = 1
    · obtain ⟨q,hq⟩:∃ q,m = 2 * q + 1:=⟨m / 2,by omega⟩
      have hr1:((m:Int) % 2 == 1) = true:=by simp;omega
      have hm1:(m:Int) - 1 = ((2 * q:Nat):Int):=by omega
      have hq2:((2 * q:Nat):Int) / 2 = (q:Int):=by omega
      obtain ⟨p,hp⟩:∃ p,p = 2 * q:=⟨_,rfl⟩
      rw [← hp] at hm1 hq2
      have HQ:=hide hq
      have hqm:q < m:=by omega
      have hpm:p ≤ m:=by omega
      have hm0:(0:Int) < (m:Int):=by omega
      clear hp hq hodd
      go_wp2_with (at_builtin;refine wpList_append_lies _ rfl (.tmp 10) (.tmp 13) 93 rfl w.heap.size 22 i0 (.int .u64 0) 1 8 Tryz.underlying93 hi hz0 hz1 hz2 rfl (by decide) _ _ _ rfl (hown.out.alloc _) ⟨wr.heap.size,0,none⟩ 1 1 [.int .u64 0] rfl rfl (cell_one_new _ _ _) (by intro u hu;simp at hu;subst hu;rfl) (by decide) (by unfold maxLen;omega) (by omega) (by simp;omega) (wr.heap.size + 1) (by simp) ?_;intro g1 cap1 w2 hown2 hgr2 hat2 hlt2)
      have hbe2:Below w.heap.size w w2:=(hbe.alloc hz (.cells #[.int .u64 0] 22)).grown hgr2 (by simp;omega) (fun g hg => (hown.out.lt g hg).1)
      go_roundw
      case rel =>
       refine ⟨ys ++ [0],q,v_int (by omega),hide ?_,by simp;omega,hide ?_,hbe2⟩
       · rw [← hys.out,HS.out,List.append_assoc,show (m - 1) % 2 = 0 by have:=HQ.out;omega,show (m - 1) / 2 = q by have:=HQ.out;omega];rfl
       · rw [List.length_append,List.map_append]
         exact hown2
      case measure => simp [intOf];omega
    · obtain ⟨q,hq⟩:∃ q,m = 2 * q + 2:=⟨(m - 2) / 2,by omega⟩
      have hr1:((m:Int) % 2 == 1) = false:=by simp;omega
      have hm1:(m:Int) - 2 = ((2 * q:Nat):Int):=by omega
      have hq2:((2 * q:Nat):Int) / 2 = (q:Int):=by omega
      obtain ⟨p,hp⟩:∃ p,p = 2 * q:=⟨_,rfl⟩
      rw [← hp] at hm1 hq2
      have HQ:=hide hq
      have hqm:q < m:=by omega
      have hpm:p ≤ m:=by omega
      have hm0:(0:Int) < (m:Int):=by omega
      clear hp hq hodd
      go_wp2_with (at_builtin;refine wpList_append_lies _ rfl (.tmp 10) (.tmp 13) 93 rfl w.heap.size 22 i0 (.int .u64 0) 1 8 Tryz.underlying93 hi hz0 hz1 hz2 rfl (by decide) _ _ _ rfl (hown.out.alloc _) ⟨wr.heap.size,0,none⟩ 1 1 [.int .u64 1] rfl rfl (cell_one_new _ _ _) (by intro u hu;simp at hu;subst hu;rfl) (by decide) (by unfold maxLen;omega) (by omega) (by simp;omega) (wr.heap.size + 1) (by simp) ?_;intro g1 cap1 w2 hown2 hgr2 hat2 hlt2)
      have hbe2:Below w.heap.size w w2:=(hbe.alloc hz (.cells #[.int .u64 1] 22)).grown hgr2 (by simp;omega) (fun g hg => (hown.out.lt g hg).1)
      go_roundw
      case rel =>
       refine ⟨ys ++ [1],q,v_int (by omega),hide ?_,by simp;omega,hide ?_,hbe2⟩
       · rw [← hys.out,HS.out,List.append_assoc,show (m - 1) % 2 = 1 by have:=HQ.out;omega,show (m - 1) / 2 = q by have:=HQ.out;omega];rfl
       · rw [List.length_append,List.map_append]
         exact hown2
      case measure => simp [intOf];omega
set_option maxHeartbeats 1000000 in
theorem refNumbers_any (s:ByteArray) (w:World) (hs:s.size ≤ 1048576) :
 Calls Tryz.prog 65 #[.string s] w fun e w' => ∃ A c,e = .returned (.slice A s.size c) ∧ s.size ≤ c ∧ (A = none → c = 0) ∧ Rd w' w'.heap.size A ((strL s).map u64V) ∧ Below w.heap.size w w':=by
 obtain ⟨i0,hi,hz0,hz1,hz2⟩:=info_parts info_u64
 go_enter Tryz.func65,Tryz.ntmps65
 go_wp2_with fail
 go_loopw [3,4] (fun v i wr => ∃ k:Nat,k ≤ s.size ∧ i = .int .i64 k ∧ Hid (wr.ownsRow w.heap.size 22 1 v k (((strL s).take k).map u64V)) ∧ Below w.heap.size w wr) (fun _ i _ => s.size - (intOf i).toNat)
 case atStart => exact ⟨0,by omega,rfl,hide (by rw [List.take_zero];exact World.ownsRow_nil _ _ _ _),Below.refl _ _⟩
 case round =>
  obtain ⟨k,hk,rfl,hown,hbe⟩:=hrel
  have hz:=hbe.size
  by_cases hlt:k < s.size
  · obtain ⟨c,hc⟩:∃ c,c = byt s k:=⟨_,rfl⟩
    have hc256:c < 256:=by rw [hc];exact byt_lt s k
    have hcs:(s[k]'hlt).toNat = c:=by rw [hc,byt_of]
    have hst:((strL s).take (k + 1)).map u64V = ((strL s).take k).map u64V ++ [.int .u64 c]:=by rw [hc,strL_take hlt,List.map_append];rfl
    have HSt:=hide hst
    have e1:IntKind.u64.wrap (c:Int) = (c:Int):=IntWalk.u64_in _ ⟨by omega,by omega⟩
    clear hc hst
    go_wp2_with (at_builtin;refine wpList_append_lies _ rfl (.tmp 11) (.tmp 16) 93 rfl w.heap.size 22 i0 (.int .u64 0) 1 8 Tryz.underlying93 hi hz0 hz1 hz2 rfl (by decide) _ _ _ rfl (hown.out.alloc _) ⟨wr.heap.size,0,none⟩ 1 1 [.int .u64 c] rfl rfl (cell_one_new _ _ _) (by intro u hu;simp at hu;subst hu;rfl) (by decide) (by unfold maxLen;omega) (by omega) (by simp;omega) (wr.heap.size + 1) (by simp) ?_;intro g1 cap1 w2 hown2 hgr2 hat2 hlt2)
    have hbe2:Below w.heap.size w w2:=(hbe.alloc hz (.cells #[.int .u64 c] 22)).grown hgr2 (by simp;omega) (fun g hg => (hown.out.lt g hg).1)
    go_roundw
    case rel => exact ⟨k + 1,by omega,by go_num,hide (by rw [HSt.out];exact hown2),hbe2⟩
    case measure => simp [intOf];omega
  · obtain rfl:k = s.size:=by omega
    have ho:=hown.out
    rw [List.take_of_length_le (by rw [strL_length];exact Nat.le_refl _)] at ho
    have hf:=own_form3 ho
    have HO3:=hide ho
    clear hown ho
    obtain ⟨A',c',rfl⟩:=hf
    go_wp2_with fail
    go_ret
    exact ⟨A',c',rfl,(own_rdN HO3.out).2,own_none HO3.out,(own_rdN HO3.out).1,hbe⟩
set_option maxHeartbeats 2000000 in
theorem refEncode_any (s:ByteArray) (w:World) (hs:s.size ≤ 65536) :
 Calls Tryz.prog 153 #[.string s] w fun e w' => ∃ A c,e = .returned (.tuple #[.slice A (encZ 0 (strL s)).length c,.int .i64 0]) ∧ Rd w' w'.heap.size A ((encZ 0 (strL s)).map u64V) ∧ Below w.heap.size w w':=by
 obtain ⟨i0,hi,hz0,hz1,hz2⟩:=info_parts info_u64
 have d0:decide ((65536:Int) < (s.size:Int)) = false:=decide_eq_false (by omega)
 go_enter Tryz.func153,Tryz.ntmps153
 go_wp2_with fail
 go_loopw [4,5,6] (fun v n i wr => ∃ (k m:Nat) (ys:List Nat),i = .int .i64 k ∧ n = .int .u64 m ∧ k ≤ s.size ∧ ys.length + m ≤ k ∧ Hid (ys ++ encZ m ((strL s).drop k) = encZ 0 (strL s)) ∧ Hid (wr.ownsRow w.heap.size 22 1 v ys.length (ys.map u64V)) ∧ Below w.heap.size w wr) (fun _ _ i _ => s.size - (intOf i).toNat)
 case atStart => exact ⟨0,0,[],rfl,rfl,by omega,by simp,hide (by simp),World.ownsRow_nil _ _ _ _,Below.refl _ _⟩
 case round =>
  obtain ⟨k,m,ys,rfl,rfl,hk,hlm,hys,hown,hbe⟩:=hrel
  have hz:=hbe.size
  have hdl:=digitsL_len m (Nat.le_refl m)
  have HD:=hide (fun (W:World) => refDigits_any m W (by omega))
  have HDl:=hide (show (digitsL m).length = (digitsL m).length from rfl)
  by_cases hlt:k < s.size
  · obtain ⟨c,hc⟩:∃ c,c = byt s k:=⟨_,rfl⟩
    have hc256:c < 256:=by rw [hc];exact byt_lt s k
    have hcs:(s[k]'hlt).toNat = c:=by rw [hc,byt_of]
    have hst:(strL s).drop k = c :: (strL s).drop (k + 1):=by rw [hc];exact drop_cons_nat (strL_get hlt)
    have hy:=hys.out
    rw [hst,encZ] at hy
    by_cases h0:c = 0
    · rw [if_pos h0] at hy
      have HY:=hide hy
      have hc0:((c:Int) == 0) = true:=by simp [h0]
      clear hc hst hy hys
      subst h0
      go_wp2_with fail
      go_roundw
      case rel => exact ⟨k + 1,m + 1,ys,by go_num,by go_num,by omega,by omega,HY,hown,hbe⟩
      case measure => simp [intOf];omega
    · rw [if_neg h0] at hy
      have HY:=hide hy
      have hc0:((c:Int) == 0) = false:=by simp;omega
      have e1:IntKind.u64.wrap (c:Int) = (c:Int):=IntWalk.u64_in _ ⟨by omega,by omega⟩
      have e2:IntKind.u64.wrap ((c:Int) + 1) = (c:Int) + 1:=IntWalk.u64_in _ ⟨by omega,by omega⟩
      have HOx:=hide (show ∀ u ∈ [Value.int .u64 ((c:Int) + 1)],u.oneCell' = true from fun u hu => by rw [List.mem_singleton.1 hu];rfl)
      have HOd:=hide (show ∀ u ∈ (digitsL m).map u64V,u.oneCell' = true from fun u hu => by obtain ⟨x,_,rfl⟩:=List.mem_map.1 hu;rfl)
      clear hc hst hy hys HDl
      go_wp2_with fail
      go_region_law (first
       | (go_simp;go_at_call 213;refine Calls.mono (HD.out wr.drew) ?_;rintro e w2 ⟨A2,c2,rfl,hn2,hrd2,hb2⟩
          have hown2:=own_fr (show World.ownsRow wr.drew w.heap.size 22 1 _ ys.length (ys.map u64V) from hown.out) (Fr.below hb2 (fun _ => False)) (fun _ _ h => h)
          have hzz:wr.heap.size ≤ w2.heap.size:=hb2.size
          have hbe2:Below w.heap.size w w2:=hbe.drew.trans (hb2.mono hz)
          have HRd2:=hide (fun (W:World) (hW:Below w2.heap.size w2 W) => (hrd2.below hW).more hW.size)
          clear hb2 hrd2)
       | (go_simp;go_at_call 213;refine Calls.mono (HD.out (wr.alloc (.cells #[.int .u64 ((c:Int) + 1)] 22)).drew) ?_;rintro e w2 ⟨A2,c2,rfl,hn2,hrd2,hb2⟩
          have hown2:=own_fr (show World.ownsRow (wr.alloc (.cells #[.int .u64 ((c:Int) + 1)] 22)).drew w.heap.size 22 1 _ ys.length (ys.map u64V) from hown.out.alloc _) (Fr.below hb2 (fun _ => False)) (fun _ _ h => h)
          have hzz:wr.heap.size ≤ w2.heap.size:=by have:=hb2.size;simp at this;omega
          have hbe2:Below w.heap.size w w2:=(hbe.alloc hz (.cells #[.int .u64 ((c:Int) + 1)] 22)).drew.trans (hb2.mono (by simp;omega))
          have hx2:Bk w2 wr.heap.size 22 #[.int .u64 ((c:Int) + 1)]:=(Bk.new wr 22 #[.int .u64 ((c:Int) + 1)]).drew.below hb2 (by simp)
          have HRd2:=hide (fun (W:World) (hW:Below w2.heap.size w2 W) => (hrd2.below hW).more hW.size)
          clear hb2 hrd2)
       | (have hown4u:=hown3
          clear hown4u
          refine step_append_rd rfl (.tmp 25) (.tmp 31) 93 rfl w.heap.size 22 i0 (.int .u64 0) 1 8 Tryz.underlying93 hi hz0 hz1 hz2 rfl (by decide) v3 (ys.length + (digitsL m).length) (ys.map u64V ++ (digitsL m).map u64V) rfl (by repeat (first | with_reducible exact hown3 | with_reducible refine World.ownsRow.drew ?_ | with_reducible refine World.ownsRow.alloc ?_ _)) (some ⟨_,0,none⟩) 1 1 [.int .u64 ((c:Int) + 1)] rfl (fun h => by cases h) rfl (bkRdQ (by repeat (first | with_reducible exact hx3 | (with_reducible refine Bk.newAt ?_;first | with_reducible rfl | (simp;all_goals fail)) | with_reducible refine Bk.drew ?_ | with_reducible refine Bk.alloc ?_ _))) HOx.out (by unfold maxLen;omega) (by omega) (by first | omega | (simp;all_goals fail) | (simp;omega)) ?_
          intro v4 w4 hown4 hgr4
          have hbe4:Below w.heap.size w w4:=Below.grown (by repeat (first | with_reducible exact hbe3 | with_reducible refine Below.drew ?_ | with_reducible refine Below.alloc ?_ (by first | omega | (simp;all_goals fail) | (simp;omega)) _)) hgr4 (by first | omega | (simp;all_goals fail) | (simp;omega)) (fun g hg => (hown3.lt g hg).1)
          have hf4:=own_form3 hown4
          obtain ⟨A4,c4,rfl⟩:=hf4
          have HO4:=hide hown4
          clear hgr4 hown4)
       | (refine step_append_rd rfl (.tmp 22) (.tmp 24) 93 rfl w.heap.size 22 i0 (.int .u64 0) 1 8 Tryz.underlying93 hi hz0 hz1 hz2 rfl (by decide) _ ys.length (ys.map u64V) rfl (by first | exact hown2 | exact hown2.alloc _) A2 (digitsL m).length c2 ((digitsL m).map u64V) rfl hn2 (by rw [List.length_map,Nat.mul_one]) (HRd2.out _ (by repeat (first | with_reducible exact Below.refl _ w2 | with_reducible refine Below.drew ?_ | with_reducible refine Below.alloc ?_ (by first | omega | (simp;all_goals fail) | (simp;omega)) _))) HOd.out (by unfold maxLen;omega) (by omega) (by first | omega | (simp;all_goals fail) | (simp;omega)) ?_
          intro v3 w3 hown3 hgr3
          have hbe3:Below w.heap.size w w3:=Below.grown (by repeat (first | with_reducible exact hbe2 | with_reducible refine Below.drew ?_ | with_reducible refine Below.alloc ?_ (by first | omega | (simp;all_goals fail) | (simp;omega)) _)) hgr3 (by first | omega | (simp;all_goals fail) | (simp;omega)) (fun g hg => (hown2.lt g hg).1)
          have hz3:=hbe3.size
          first
          | (have hx3:Bk w3 wr.heap.size 22 #[.int .u64 ((c:Int) + 1)]:=hx2.grown hgr3 (fun he => by have:=(hown.out.lt _ he.symm).2;omega))
          | (have hx3:Bk w3 w2.heap.size 22 #[.int .u64 ((c:Int) + 1)]:=(Bk.new w2 22 #[.int .u64 ((c:Int) + 1)]).grown hgr3 (fun he => by have:=(hown.out.lt _ he.symm).2;omega))
          | (have hx3:=True.intro)
          clear hgr3))
      all_goals
       go_wp2_with fail
       go_roundw
       case rel =>
        refine ⟨k + 1,0,ys ++ digitsL m ++ [c + 1],by go_num,rfl,by omega,by simp;omega,hide (by rw [← HY.out];simp),hide ?_,hbe4⟩
        have:=HO4.out
        rw [List.length_append,List.length_append,List.map_append,List.map_append]
        exact this
       case measure => simp [intOf];omega
  · obtain rfl:k = s.size:=by omega
    have hy:=hys.out
    rw [List.drop_eq_nil_of_le (by rw [strL_length];exact Nat.le_refl _),encZ] at hy
    have HY:=hide hy
    have HOd:=hide (show ∀ u ∈ (digitsL m).map u64V,u.oneCell' = true from fun u hu => by obtain ⟨x,_,rfl⟩:=List.mem_map.1 hu;rfl)
    clear hy hys HDl
    go_wp2_with (first
     | (go_at_call 213;refine Calls.mono (HD.out _) ?_;rintro e w2 ⟨A2,c2,rfl,hn2,hrd2,hb2⟩
        have hown2:=own_fr hown.out (Fr.below hb2 (fun _ => False)) (fun _ _ h => h)
        have hzz:=hb2.size
        have hbe2:Below w.heap.size w w2:=hbe.trans (hb2.mono hz)
        clear hb2)
     | (at_builtin;refine wpList_append_own _ rfl (.tmp 36) (.tmp 37) 93 rfl w.heap.size 22 i0 (.int .u64 0) 1 8 Tryz.underlying93 hi hz0 hz1 hz2 rfl (by decide) _ _ _ rfl (HO3.out.alloc _) ⟨w3.heap.size,0,none⟩ 1 1 [.int .u64 257] rfl rfl (cell_one_new _ _ _) (by intro u hu;simp at hu;subst hu;rfl) (by unfold maxLen;omega) (by omega) (by simp;omega) ?_;intro v4 w4 hown4 hgr4 _
        have hbe4:Below w.heap.size w w4:=(hbe3.alloc (by omega) (.cells #[.int .u64 257] 22)).grown hgr4 (by simp;omega) (fun g hg => (HO3.out.lt g hg).1)
        have hf4:=own_form3 hown4
        obtain ⟨A4,c4,rfl⟩:=hf4
        have HO4:=hide hown4
        clear hgr4 hown4)
     | (at_builtin;refine wpList_append_rd rfl (.tmp 33) (.tmp 35) 93 rfl w.heap.size 22 i0 (.int .u64 0) 1 8 Tryz.underlying93 hi hz0 hz1 hz2 rfl (by decide) _ _ _ rfl hown2 A2 (digitsL m).length c2 ((digitsL m).map u64V) rfl hn2 (by rw [List.length_map,Nat.mul_one]) hrd2 HOd.out (by unfold maxLen;omega) (by omega) (by omega) ?_;intro v3 w3 hown3 hgr3
        have hbe3:Below w.heap.size w w3:=hbe2.grown hgr3 (by omega) (fun g hg => (hown2.lt g hg).1)
        have hz3:=hbe3.size
        have HO3:=hide hown3
        clear hgr3 hown3 hown2 hn2 hrd2))
    go_ret2
    have hlen:(encZ 0 (strL s)).length = ys.length + (digitsL m).length + 1:=by rw [← HY.out];simp;omega
    refine ⟨A4,c4,by rw [hlen];rfl, ?_,hbe4⟩
    have:=(own_rdN HO4.out).1
    rw [← HY.out,← List.append_assoc,List.map_append,List.map_append]
    exact this
end Go.Proofs.YtcfnjpokfodmoaaGreatDoor
