/- Lemmas for the row: DocTab. -/
import Derived.Test.YtcfnjpokfodmoaaGreatDoorM04
import Derived.Test.YtcfnjpokfodmoaaGreatDoorM06
import Derived.Test.YtcfnjpokfodmoaaGreatDoorM14
import Derived.Test.YtcfnjpokfodmoaaGreatDoorM41
set_option maxRecDepth 100000
set_option linter.unusedVariables false
namespace Go.Proofs.YtcfnjpokfodmoaaGreatDoor
open Go.RowKit
set_option maxHeartbeats 4000000 in
theorem refList_any (A:Option Addr) (N:List Nat) (c:Nat) (w:World) (h:Rd w w.heap.size A (natsV N)) (h0:N ≠ []) (h15:∀ x ∈ N,x ≤ 15) (hF:(tableL N).length ≤ 20000) (hn:N.length ≤ 512) :
 Calls Tryz.prog 155 #[.slice A N.length c] w fun e w' => ∃ A' c',e = .returned (.slice A' (tableL N).length c') ∧ (A' = none → c' = 0) ∧ Rd w' w'.heap.size A' ((tableL N).map Value.bool) ∧ Below w.heap.size w w':=by
 obtain ⟨i0,hi,iz0,iz1,iz2⟩:=info_parts info_bool
 have hp:0 < N.length:=List.length_pos_iff.2 h0
 obtain ⟨V,hV⟩:∃ V,N[0]? = some V:=⟨N[0],List.getElem?_eq_getElem hp⟩
 have hVd:N.headD 0 = V:=by cases N with | nil => exact absurd rfl h0 | cons x l => simp at hV;simp [hV]
 have hV15:V ≤ 15:=h15 V (List.mem_of_getElem? hV)
 have hT:tableL N = natBits V 4 ++ tabT V N:=by unfold tableL;rw [hVd]
 obtain ⟨F,hFe⟩:∃ F,F = tableL N:=⟨_,rfl⟩
 rw [← hFe] at hF hT ⊢
 obtain ⟨b,o,hA,hb,hc0⟩:=h 0 (.int .i64 V) (by unfold natsV;rw [List.getElem?_map,hV];rfl)
 rw [Nat.add_zero] at hc0
 subst hA
 have H:=hide h
 have H15:=hide h15
 have HT:=hide hT
 clear h h15 hT hFe hVd h0 hV
 have HOb:Hid (∀ (l:List Bool),∀ u ∈ l.map Value.bool,u.oneCell' = true):=hide (fun l u hu => by obtain ⟨x,_,rfl⟩:=List.mem_map.1 hu;rfl)
 go_enter Tryz.func155,Tryz.ntmps155
 go_wp2_with fail
 go_loopw [3,5] (fun v i wr => ∃ d:Nat,d ≤ 4 ∧ i = .int .i64 ((d:Int) - 1) ∧ Hid (wr.ownsRow w.heap.size 4 1 v (4 - d) (((natBits V 4).take (4 - d)).map Value.bool)) ∧ Below w.heap.size w wr) (fun _ i _ => (intOf i + 1).toNat)
 case atStart => exact ⟨4,by omega,rfl,hide (World.ownsRow_nil _ _ _ _),Below.refl _ _⟩
 case round =>
  obtain ⟨d,hd,rfl,hown,hbe⟩:=hrel
  have hz:=hbe.size
  rcases Nat.eq_zero_or_pos d with rfl | hd0
  · have e0:((0:Nat):Int) - 1 = -1:=rfl
    rw [e0]
    have ho:=hown.out
    rw [Nat.sub_zero,List.take_of_length_le (by simp)] at ho
    have HO:=hide ho
    clear ho hown
    go_wp2_with fail
    go_loopw [3,4,26] (fun v nw i wr => ∃ (k now:Nat) (ys:List Bool),k ≤ N.length ∧ i = .int .i64 k ∧ nw = .int .i64 now ∧ now ≤ 15 ∧ Hid (ys ++ tabT now (N.drop k) = F) ∧ Hid (wr.ownsRow w.heap.size 4 1 v ys.length (ys.map Value.bool)) ∧ Below w.heap.size w wr) (fun _ _ i _ => N.length - (intOf i).toNat)
    case atStart => exact ⟨0,V,natBits V 4,by omega,rfl,rfl,hV15,hide (by rw [List.drop_zero];exact HT.out.symm),hide (by rw [natBits_length];exact HO.out),hbe⟩
    case round =>
     clear HO hbe hz
     obtain ⟨k,now,ys,hk,rfl,rfl,hnow,hys,hown,hbe⟩:=hrel
     have hz:=hbe.size
     by_cases hlt:k < N.length
     · obtain ⟨l,hl⟩:∃ l,N[k]? = some l:=⟨N[k],List.getElem?_eq_getElem hlt⟩
       have hl15:=H15.out l (List.mem_of_getElem? hl)
       obtain ⟨b',o',hA',_,hck0⟩:=H.out k (.int .i64 l) (by unfold natsV;rw [List.getElem?_map,hl];rfl)
       simp only [Option.some.injEq,Addr.mk.injEq,and_true] at hA'
       obtain ⟨rfl,rfl⟩:=hA'
       have hck:=(hbe.cell (p:=⟨b,o + k,none⟩) hb).trans hck0
       have hdr:N.drop k = l :: N.drop (k + 1):=by
        obtain ⟨hk',rfl⟩:=List.getElem?_eq_some_iff.1 hl
        exact List.drop_eq_getElem_cons hk'
       have hy:=hys.out
       rw [hdr,tabT] at hy
       have HY:=hide hy
       obtain ⟨G,hG⟩:∃ G,G = tabT l (N.drop (k + 1)):=⟨_,rfl⟩
       rw [← hG] at HY
       have HG:=hide hG
       clear hck0 hl hdr hy hys hG
       go_wp2_with fail
       go_loopw [3,4] (fun v nw wr => ∃ (now:Nat) (ys:List Bool),nw = .int .i64 now ∧ now ≤ 15 ∧ Hid (ys ++ (moveT now l ++ G) = F) ∧ Hid (wr.ownsRow w.heap.size 4 1 v ys.length (ys.map Value.bool)) ∧ Below w.heap.size w wr) (fun _ nw _ => 15 - (intOf nw).toNat)
       case atStart => exact ⟨now,ys,rfl,hnow,HY,hown,hbe⟩
       case round =>
        clear HY hown hbe hck hnow hz
        obtain ⟨now,ys,rfl,hnow,hys,hown,hbe⟩:=hrel
        have hz:=hbe.size
        by_cases hu:now < l
        · have hy:=hys.out
          rw [moveT_up hu] at hy
          have hlen:=congrArg List.length hy
          simp only [List.length_append,List.length_cons] at hlen
          have hyl:ys.length + 2 ≤ 20000:=by omega
          have HY:=hide hy
          clear hy hlen hys
          go_wp2_with (at_builtin;refine wpList_append_rd rfl (.tmp 33) (.tmp 34) 232 rfl w.heap.size 4 i0 (.bool false) 1 1 Tryz.underlying232 hi iz0 iz1 iz2 rfl (by decide) _ _ _ rfl (hown.out.alloc _) (some ⟨wr.heap.size,0,none⟩) 2 2 ([true,false].map Value.bool) rfl (fun h => by cases h) rfl (bkRdQ (Bk.new wr 4 #[.bool true,.bool false])) (HOb.out [true,false]) (by unfold maxLen;omega) (by omega) (by simp;omega) ?_;intro v2 w2 hown2 hgr2)
          have hbe2:Below w.heap.size w w2:=(hbe.alloc hz (.cells #[.bool true,.bool false] 4)).grown hgr2 (by simp;omega) (fun g hg => (hown.out.lt g hg).1)
          go_roundw
          case rel => exact ⟨now + 1,ys ++ [true,false],by go_num,by omega,hide (by rw [← HY.out];simp),hide (by rw [List.length_append,List.map_append];exact hown2),hbe2⟩
          case measure => simp [intOf];omega
        · have hul:l ≤ now:=by omega
          go_wp2_with fail
          go_loopw [3,4] (fun v nw wr => ∃ (now:Nat) (ys:List Bool),nw = .int .i64 now ∧ now ≤ 15 ∧ l ≤ now ∧ Hid (ys ++ (moveT now l ++ G) = F) ∧ Hid (wr.ownsRow w.heap.size 4 1 v ys.length (ys.map Value.bool)) ∧ Below w.heap.size w wr) (fun _ nw _ => (intOf nw).toNat)
          case atStart => exact ⟨now,ys,rfl,hnow,hul,hys,hown,hbe⟩
          case round =>
           clear hys hown hbe hu hul hnow hz
           obtain ⟨now,ys,rfl,hnow,hul,hys,hown,hbe⟩:=hrel
           have hz:=hbe.size
           by_cases hu:l < now
           · have hy:=hys.out
             rw [moveT_down hu] at hy
             have hlen:=congrArg List.length hy
             simp only [List.length_append,List.length_cons] at hlen
             have hyl:ys.length + 2 ≤ 20000:=by omega
             have HY:=hide hy
             obtain ⟨m,rfl⟩:∃ m,now = m + 1:=⟨now - 1,by omega⟩
             have hm1:((m + 1:Nat):Int) - 1 = (m:Int):=by omega
             clear hy hlen hys
             go_wp2_with (at_builtin;refine wpList_append_rd rfl (.tmp 41) (.tmp 42) 232 rfl w.heap.size 4 i0 (.bool false) 1 1 Tryz.underlying232 hi iz0 iz1 iz2 rfl (by decide) _ _ _ rfl (hown.out.alloc _) (some ⟨wr.heap.size,0,none⟩) 2 2 ([true,true].map Value.bool) rfl (fun h => by cases h) rfl (bkRdQ (Bk.new wr 4 #[.bool true,.bool true])) (HOb.out [true,true]) (by unfold maxLen;omega) (by omega) (by simp;omega) ?_;intro v2 w2 hown2 hgr2)
             have hbe2:Below w.heap.size w w2:=(hbe.alloc hz (.cells #[.bool true,.bool true] 4)).grown hgr2 (by simp;omega) (fun g hg => (hown.out.lt g hg).1)
             go_roundw
             case rel => exact ⟨m,ys ++ [true,true],by go_num,by omega,by omega,hide (by rw [← HY.out];simp),hide (by rw [List.length_append,List.map_append];exact hown2),hbe2⟩
             case measure => simp [intOf]
           · have he:now = l:=by omega
             subst he
             have hy:=hys.out
             rw [moveT_same] at hy
             have hlen:=congrArg List.length hy
             simp only [List.length_append,List.length_cons] at hlen
             have hyl:ys.length + 1 ≤ 20000:=by omega
             have HY:=hide hy
             clear hy hlen hys
             go_wp2_with (at_builtin;refine wpList_append_rd rfl (.tmp 46) (.tmp 47) 232 rfl w.heap.size 4 i0 (.bool false) 1 1 Tryz.underlying232 hi iz0 iz1 iz2 rfl (by decide) _ _ _ rfl (hown.out.alloc _) (some ⟨wr.heap.size,0,none⟩) 1 1 ([false].map Value.bool) rfl (fun h => by cases h) rfl (bkRdQ (Bk.new wr 4 #[.bool false])) (HOb.out [false]) (by unfold maxLen;omega) (by omega) (by simp;omega) ?_;intro v2 w2 hown2 hgr2)
             have hbe2:Below w.heap.size w w2:=(hbe.alloc hz (.cells #[.bool false] 4)).grown hgr2 (by simp;omega) (fun g hg => (hown.out.lt g hg).1)
             go_roundw
             case rel => exact ⟨k + 1,now,ys ++ [false],by omega,by go_num,rfl,hnow,hide (by rw [← HG.out,← HY.out];simp),hide (by rw [List.length_append,List.map_append];exact hown2),hbe2⟩
             case measure => simp [intOf];omega
     · obtain rfl:k = N.length:=by omega
       have hy:=hys.out
       rw [List.drop_eq_nil_of_le (Nat.le_refl _),tabT,List.append_nil] at hy
       have hf:=own_form3 hown.out
       have HO3:=hide hown.out
       have HY:=hide hy
       clear hy hys hown
       obtain ⟨A',c',rfl⟩:=hf
       go_wp2_with fail
       go_ret
       refine ⟨A',c', ?_⟩
       rw [← HY.out]
       exact ⟨rfl,own_none HO3.out,(own_rdN HO3.out).1,hbe⟩
  · obtain ⟨e,rfl⟩:∃ e,d = e + 1:=⟨d - 1,by omega⟩
    have e0:((e + 1:Nat):Int) - 1 = (e:Int):=by omega
    rw [e0]
    obtain ⟨Q,hQ⟩:∃ Q,Q = V / 2 ^ e:=⟨_,rfl⟩
    have hQ':(V:Int) / 2 ^ e = (Q:Int):=by rw [hQ,Int.natCast_ediv,Int.natCast_pow];rfl
    obtain ⟨x,hx⟩:∃ x,x = (Q % 2 == 1):=⟨_,rfl⟩
    have hx':(((Q:Int) % 2) == 1) = x:=by
     rw [hx]
     rcases Nat.mod_two_eq_zero_or_one Q with g | g
     · rw [g,show (Q:Int) % 2 = 0 by omega];rfl
     · rw [g,show (Q:Int) % 2 = 1 by omega];rfl
    have hx2:x = (V / 2 ^ (4 - 1 - (4 - (e + 1))) % 2 == 1):=by rw [hx,hQ,show 4 - 1 - (4 - (e + 1)) = e by omega]
    have HX:=hide hx2
    clear hQ hx hx2
    go_wp2_with (at_builtin;refine wpList_append_own _ rfl (.tmp 15) (.tmp 22) 232 rfl w.heap.size 4 i0 (.bool false) 1 1 Tryz.underlying232 hi iz0 iz1 iz2 rfl (by decide) _ _ _ rfl (hown.out.alloc _) ⟨wr.heap.size,0,none⟩ 1 1 [.bool x] rfl rfl (cell_one_new _ _ _) (by intro u hu;simp at hu;subst hu;rfl) (by unfold maxLen;omega) (by omega) (by simp;omega) ?_;intro v' w2 hown2 hgr2 _)
    have hbe2:Below w.heap.size w w2:=(hbe.alloc hz (.cells #[.bool x] 4)).grown hgr2 (by simp;omega) (fun g hg => (hown.out.lt g hg).1)
    go_roundw
    case rel => exact ⟨e,by omega,by first | rfl | go_num,hide (by rw [show 4 - e = (4 - (e + 1)) + 1 by omega,natBits_more V (by omega),← HX.out,List.map_append];exact hown2),hbe2⟩
    case measure => simp [intOf]
end Go.Proofs.YtcfnjpokfodmoaaGreatDoor
