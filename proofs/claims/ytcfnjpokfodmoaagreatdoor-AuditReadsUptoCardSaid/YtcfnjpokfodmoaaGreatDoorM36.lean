/- Lemmas for the row: RepNums, RepRead. -/
import Derived.Test.YtcfnjpokfodmoaaGreatDoorM03
import Derived.Test.YtcfnjpokfodmoaaGreatDoorM06
import Derived.Test.YtcfnjpokfodmoaaGreatDoorM14
import Derived.Test.YtcfnjpokfodmoaaGreatDoorM34
import Derived.Test.YtcfnjpokfodmoaaGreatDoorM35
set_option maxRecDepth 100000
set_option linter.unusedVariables false
namespace Go.Proofs.YtcfnjpokfodmoaaGreatDoor
open Go.RowKit
theorem decL_lt {l:List Nat}:(∀ c ∈ l,c ≤ 57) → decL l < 10 ^ l.length:=by
 intro h
 have key:∀ (n:Nat) (l:List Nat),l.length = n → (∀ c ∈ l,c ≤ 57) → decL l < 10 ^ n:=by
  intro n
  induction n with
  | zero => intro l hl _;rw [List.eq_nil_of_length_eq_zero hl];decide
  | succ n ih =>
    intro l hl hc
    obtain ⟨m,c,rfl⟩:∃ m c,l = m ++ [c]:=⟨l.dropLast,l.getLast (by intro e;rw [e] at hl;cases hl),(List.dropLast_concat_getLast _).symm⟩
    have h1:=ih m (by simpa using hl) (fun x hx => hc x (List.mem_append_left _ hx))
    have h2:=hc c (by simp)
    rw [decL_snoc,Nat.pow_succ]
    omega
 exact key _ l rfl h
theorem isDig_lo {c:Nat} (h:c < 48):isDig c = false:=by unfold isDig;rw [decide_eq_false (by omega)];rfl
theorem isDig_hi {c:Nat} (h:57 < c):isDig c = false:=by unfold isDig;rw [decide_eq_false (p:=c ≤ 57) (by omega),Bool.and_false]
theorem isDig_ok {c:Nat} (h:48 ≤ c) (h':c ≤ 57):isDig c = true:=by unfold isDig;rw [decide_eq_true h,decide_eq_true h'];rfl
theorem wordV_none {w:List Nat} (h:w = [] ∨ 15 < w.length ∨ w.all isDig = false ∨ (1 < w.length ∧ w.head? = some 48)):wordV w = none:=by unfold wordV;rw [if_pos h]
theorem all_take {w:List Nat} {k c:Nat} (h:w[k]? = some c) (hd:isDig c = false):w.all isDig = false:=by
 rw [Bool.eq_false_iff]
 intro e
 rw [List.all_eq_true] at e
 have:=e c (List.mem_of_getElem? h)
 rw [hd] at this
 cases this
def NumsP (s:List Nat) (w:World) (e:Ending) (w':World):Prop :=
 ((numsL s = none ∧ e = .returned (.tuple #[.slice none 0 0,.bool false])) ∨ ∃ A c l,numsL s = some l ∧ e = .returned (.tuple #[.slice A l.length c,.bool true]) ∧ Rd w' w'.heap.size A (l.map u64V) ∧ (∀ a,A = some a → w.heap.size ≤ a.block)) ∧ Below w.heap.size w w'
theorem allV_len:∀ {l:List (List Nat)} {r:List Nat},allV l = some r → r.length = l.length ∧ ∀ n ∈ r,n < 1000000000000000:=by
 intro l
 induction l with
 | nil => intro r h;cases h;exact ⟨rfl,by simp⟩
 | cons w l ih =>
   intro r h
   rw [allV] at h
   cases hw:wordV w with
   | none => rw [hw] at h;cases h
   | some n =>
     rw [hw] at h
     cases hl:allV l with
     | none => rw [hl] at h;cases h
     | some l' =>
       rw [hl] at h
       cases h
       obtain ⟨h1,h2⟩:=ih hl
       refine ⟨by simp [h1],fun x hx => ?_⟩
       rcases List.mem_cons.1 hx with rfl | hx
       · unfold wordV at hw
         split at hw
         · cases hw
         · rename_i hn
           cases hw
           have hall:∀ c ∈ w,c ≤ 57:=fun c hc => by
            by_cases e:w.all isDig = true
            · rw [List.all_eq_true] at e
              have:=e c hc
              unfold isDig at this
              simp at this;omega
            · exact absurd (.inr (.inr (.inl (by simpa using e)))) hn
           have:=decL_lt hall
           have h15:w.length ≤ 15:=by
            rcases Nat.lt_or_ge 15 w.length with g | g
            · exact absurd (.inr (.inl g)) hn
            · exact g
           have:=Nat.pow_le_pow_right (n:=10) (by decide) h15
           omega
       · exact h2 x hx
set_option maxHeartbeats 4000000 in
theorem refNums_any (s:ByteArray) (w:World) (hs:s.size ≤ 1048576):Calls Tryz.prog 56 #[.string s] w (NumsP (strL s) w):=by
 obtain ⟨i0,hi,hz0,hz1,hz2⟩:=info_parts info_u64
 go_enter Tryz.func56,Tryz.ntmps56
 go_wp2_with fail
 go_loopw [4,5,6] (fun v wd i wr => ∃ (k:Nat) (W:ByteArray) (ys:List Nat),i = .int .i64 k ∧ wd = .string W ∧ k ≤ s.size + 1 ∧ W.size ≤ k ∧ ys.length ≤ k ∧ Hid (32 ∉ strL W) ∧ Hid (k ≤ s.size → numsL (strL s) = (allV (splitL (strL W ++ (strL s).drop k))).map (ys ++ ·)) ∧ Hid (k = s.size + 1 → numsL (strL s) = some ys) ∧ Hid (wr.ownsRow w.heap.size 22 1 v ys.length (ys.map u64V)) ∧ Below w.heap.size w wr) (fun _ _ i _ => s.size + 1 - (intOf i).toNat)
 case atStart =>
  refine ⟨0,⟨#[]⟩,[],rfl,rfl,by omega,by decide,by simp,hide (by rw [show strL ⟨#[]⟩ = [] from rfl];simp),hide (fun _ => ?_),hide (fun h => by omega),World.ownsRow_nil _ _ _ _,Below.refl _ _⟩
  rw [List.drop_zero]
  show allV (splitL (strL s)) = _
  rw [show strL ⟨#[]⟩ = [] from rfl,List.nil_append]
  cases allV (splitL (strL s)) <;> rfl
 case round =>
  obtain ⟨k,W,ys,rfl,rfl,hk,hWk,hyk,HW,HInv,HEnd,hown,hbe⟩:=hrel
  have hz:=hbe.size
  by_cases hfin:k = s.size + 1
  · have hE:=HEnd.out hfin
    have hnk:¬ k ≤ s.size:=by omega
    have HE:=hide hE
    have hf:=own_form3 hown.out
    have HO:=hide hown.out
    clear hE hfin hown HInv HEnd
    obtain ⟨A,c,rfl⟩:=hf
    go_wp2_with fail
    go_ret2
    exact ⟨.inr ⟨A,c,ys,HE.out,rfl,(own_rdN HO.out).1,own_low HO.out⟩,hbe⟩
  · have hks:k ≤ s.size:=by omega
    have hI:=HInv.out hks
    clear HInv HEnd
    by_cases hblank:k < s.size ∧ byt s k ≠ 32
    · obtain ⟨hlt,hne⟩:=hblank
      obtain ⟨c,hc⟩:∃ c,c = byt s k:=⟨_,rfl⟩
      have hcs:(s[k]'hlt).toNat = c:=by rw [hc,byt_of]
      have hc32:c ≠ 32:=by rw [hc];exact hne
      have hcI:((c:Int) != 32) = true:=by simp;omega
      have hst:(strL s).drop k = c :: (strL s).drop (k + 1):=by rw [hc];exact drop_cons_nat (strL_get hlt)
      have hX:strL (s.extract k (k + 1)) = [c]:=by
       rw [strL_sub,List.take_add_one,List.drop_append_of_le_length (by rw [List.length_take,strL_length];omega),List.drop_eq_nil_of_le (by rw [List.length_take];omega),strL_get hlt,hc];rfl
      obtain ⟨k1,hk1⟩:∃ k1,k1 = k + 1:=⟨_,rfl⟩
      have hk1I:(k:Int) + 1 = (k1:Int):=by omega
      have hk1w:IntKind.i64.wrap (k1:Int) = (k1:Int):=IntWalk.i64_in _ ⟨by omega,by omega⟩
      have hk1s:k1 ≤ s.size:=by omega
      have hkk1:k ≤ k1:=by omega
      rw [← hk1] at hX hst
      obtain ⟨X,hXe⟩:∃ X,X = s.extract k k1:=⟨_,rfl⟩
      rw [← hXe] at hX
      have hXs:X.size = 1:=by rw [← strL_length,hX];rfl
      have hXe':=hXe.symm
      have hcat:(9223372036854775807 < W.size + X.size) = False:=eq_false (by omega)
      have hW2:strL (W ++ X) = strL W ++ [c]:=by rw [strL_map,ByteArray.data_append,Array.toList_append,List.map_append,← strL_map,← strL_map,hX]
      have HI2:=hide (show numsL (strL s) = (allV (splitL (strL (W ++ X) ++ (strL s).drop k1))).map (ys ++ ·) by rw [hW2,List.append_assoc,List.singleton_append,← hst];exact hI)
      have HW2:=hide (show 32 ∉ strL (W ++ X) by rw [hW2];intro h;rcases List.mem_append.1 h with h | h;exact HW.out h;exact hc32 (List.mem_singleton.1 h).symm)
      have hWs:(W ++ X).size = W.size + 1:=by rw [ByteArray.size_append,hXs]
      have HWs:=hide hWs
      have HK1:=hide hk1
      clear hc hne hc32 hst hX hk1 hXe hW2 hWs hI hXs
      go_wp2_with fail
      go_roundw
      case rel => exact ⟨k1,W ++ X,ys,rfl,rfl,by have:=HK1.out;omega,by rw [HWs.out];have:=HK1.out;omega,by have:=HK1.out;omega,HW2,hide (fun _ => HI2.out),hide (fun h => by omega),hown,hbe⟩
      case measure => have:=HK1.out;simp [intOf];omega
    · have hnf:(wordV (strL W) = none → numsL (strL s) = none) ∧ (∀ n,wordV (strL W) = some n → (k + 1 ≤ s.size → numsL (strL s) = (allV (splitL ((strL s).drop (k + 1)))).map ((ys ++ [n]) ++ ·)) ∧ (k + 1 = s.size + 1 → numsL (strL s) = some (ys ++ [n]))):=by
       by_cases hlt:k < s.size
       · have h32:byt s k = 32:=by
          by_cases e:byt s k = 32
          · exact e
          · exact absurd ⟨hlt,e⟩ hblank
         have hdr:(strL s).drop k = 32 :: (strL s).drop (k + 1):=by rw [← h32];exact drop_cons_nat (strL_get hlt)
         rw [hdr,splitL_word HW.out,allV] at hI
         refine ⟨fun h => by rw [hI,h];rfl,fun n h => ⟨fun _ => ?_,fun h => by omega⟩⟩
         rw [hI,h]
         cases allV (splitL ((strL s).drop (k + 1))) with
         | none => rfl
         | some l => simp
       · rw [List.drop_eq_nil_of_le (by rw [strL_length];omega),List.append_nil,splitL_last HW.out,allV,allV] at hI
         refine ⟨fun h => by rw [hI,h];rfl,fun n h => ⟨fun h => by omega,fun _ => ?_⟩⟩
         rw [hI,h];rfl
      have HF:=hide hnf.1
      have HN:=hide hnf.2
      clear hnf hI HW
      by_cases hlt:k < s.size
      · have h32:byt s k = 32:=by
         by_cases e:byt s k = 32
         · exact e
         · exact absurd ⟨hlt,e⟩ hblank
        obtain ⟨c,hc⟩:∃ c,c = byt s k:=⟨_,rfl⟩
        have hcs:(s[k]'hlt).toNat = c:=by rw [hc,byt_of]
        have hcI:((c:Int) != 32) = false:=by simp;omega
        clear hblank h32 hc
        rcases Nat.eq_zero_or_pos W.size with hw0 | hw0
        · have:=size_zero hw0
          subst this
          have HNo:wordV (strL ⟨#[]⟩) = none:=wordV_none (.inl rfl)
          have HNo:=hide HNo
          clear hw0
          go_wp2_with fail
          go_ret2
          exact ⟨.inl ⟨HF.out HNo.out,rfl⟩,hbe⟩
        · have hE:=not_empty (by omega:W.size ≠ 0)
          obtain ⟨c0,hc0⟩:∃ c,c = byt W 0:=⟨_,rfl⟩
          have hc0s:(W[0]'hw0).toNat = c0:=by rw [hc0,byt_of]
          have hhead:(strL W).head? = some c0:=by rw [List.head?_eq_getElem?,strL_get hw0,hc0]
          have HHd:=hide hhead
          clear hc0 hhead
          by_cases hw15:15 < W.size
          · have HNo:=hide (wordV_none (w:=strL W) (.inr (.inl (by rw [strL_length];exact hw15))))
            have h15:(15:Int) < (W.size:Int):=by omega
            clear hw15
            go_wp2_with fail
            go_ret2
            exact ⟨.inl ⟨HF.out HNo.out,rfl⟩,hbe⟩
          · have h15:¬ (15:Int) < (W.size:Int):=by omega
            have h15':W.size ≤ 15:=by omega
            clear hw15
            by_cases hz48:c0 = 48 ∧ 1 < W.size
            · obtain ⟨hz1,hz2⟩:=hz48
              have HNo:=hide (wordV_none (w:=strL W) (.inr (.inr (.inr ⟨by rw [strL_length];exact hz2,by rw [HHd.out,hz1]⟩))))
              have hcz:((c0:Int) == 48) = true:=by simp;omega
              have hz2':(1:Int) < (W.size:Int):=by omega
              clear hz1 hz2
              go_wp2_with fail
              go_ret2
              exact ⟨.inl ⟨HF.out HNo.out,rfl⟩,hbe⟩
            · have HZ:=hide hz48
              obtain ⟨cz,hcz⟩:∃ b,((c0:Int) == 48) = b:=⟨_,rfl⟩
              obtain ⟨sz,hsz⟩:∃ b,decide ((1:Int) < (W.size:Int)) = b:=⟨_,rfl⟩
              have hboth:cz = false ∨ sz = false:=by
               cases cz
               · exact .inl rfl
               · right
                 cases sz
                 · rfl
                 · exact absurd ⟨by simp at hcz;omega,by have:=of_decide_eq_true hsz;omega⟩ HZ.out
              have HBoth:=hide hboth
              clear hz48 hboth
              obtain ⟨cut,hcut⟩:∃ b,b = (if cz = true then sz else false):=⟨_,rfl⟩
              rcases HBoth.out with e | e
              · subst e
                clear hcut hsz HBoth
                go_wp2_with fail
                go_loopw [7,8] (fun vn vi wx => ∃ (q d:Nat),q ≤ W.size ∧ vi = .int .i64 q ∧ vn = .int .u64 d ∧ Hid (d = decL ((strL W).take q)) ∧ d < 10 ^ q ∧ Hid (∀ j c,j < q → (strL W)[j]? = some c → isDig c = true) ∧ wr = wx) (fun _ vi _ => W.size - (intOf vi).toNat)
                case atStart => exact ⟨0,0,by omega,rfl,rfl,hide (by rw [List.take_zero];rfl),by decide,hide (fun j c hj _ => by omega),rfl⟩
                case round =>
                 obtain ⟨q,d,hq,rfl,rfl,HD,hd,HDg,rfl⟩:=hrel
                 have hd15:d < 1000000000000000:=Nat.lt_of_lt_of_le hd (Nat.pow_le_pow_right (n:=10) (by decide) (show q ≤ 15 by omega))
                 by_cases hqW:q < W.size
                 · obtain ⟨c,hc⟩:∃ c,c = byt W q:=⟨_,rfl⟩
                   have hc256:c < 256:=by rw [hc];exact byt_lt W q
                   have hcs:(W[q]'hqW).toNat = c:=by rw [hc,byt_of]
                   have hget:(strL W)[q]? = some c:=by rw [strL_get hqW,hc]
                   have htk:decL ((strL W).take (q + 1)) = 10 * d + (c - 48):=by rw [List.take_add_one,hget,HD.out];exact decL_snoc _ _
                   have HGet:=hide hget
                   have HTk:=hide htk
                   clear hc hget htk
                   by_cases hlo:c < 48
                   · have hloI:(c:Int) < 48:=by omega
                     have HNo:=hide (wordV_none (w:=strL W) (.inr (.inr (.inl (all_take HGet.out (isDig_lo hlo))))))
                     clear hlo
                     go_wp2_with fail
                     go_ret2
                     exact ⟨.inl ⟨HF.out HNo.out,rfl⟩,hbe⟩
                   · have hloI:¬ (c:Int) < 48:=by omega
                     by_cases hhi:57 < c
                     · have hhiI:(57:Int) < (c:Int):=by omega
                       have HNo:=hide (wordV_none (w:=strL W) (.inr (.inr (.inl (all_take HGet.out (isDig_hi hhi))))))
                       clear hhi hlo
                       go_wp2_with fail
                       go_ret2
                       exact ⟨.inl ⟨HF.out HNo.out,rfl⟩,hbe⟩
                     · have hhiI:¬ (57:Int) < (c:Int):=by omega
                       obtain ⟨x,hx⟩:∃ x,c = 48 + x:=⟨c - 48,by omega⟩
                       have hx9:x ≤ 9:=by omega
                       have hcx:(c:Int) - 48 = (x:Int):=by omega
                       have hcx2:IntKind.u8.wrap (x:Int) = (x:Int):=by rw [IntKind.wrap_u8];omega
                       have hdx:IntKind.u64.wrap (10 * (d:Int)) = 10 * (d:Int):=by rw [IntKind.wrap_u64];omega
                       have hdy:IntKind.u64.wrap (10 * (d:Int) + (x:Int)) = 10 * (d:Int) + (x:Int):=by rw [IntKind.wrap_u64];omega
                       have hxw:IntKind.u64.wrap (x:Int) = (x:Int):=by rw [IntKind.wrap_u64];omega
                       have HX:=hide hx
                       have hpw:10 ^ (q + 1) = 10 * 10 ^ q:=by rw [Nat.pow_succ,Nat.mul_comm]
                       have HPw:=hide hpw
                       clear hx hlo hhi hpw
                       go_wp2_with fail
                       go_roundw
                       case rel => exact ⟨q + 1,10 * d + x,by omega,by go_num,by go_num,hide (by rw [HTk.out,HX.out,Nat.add_sub_cancel_left]),by rw [HPw.out];omega,hide (fun j c' hj hc' => by
                        by_cases e:j = q
                        · subst e;rw [HGet.out] at hc';cases hc';have:=HX.out;exact isDig_ok (by omega) (by omega)
                        · exact HDg.out j c' (by omega) hc'),by first | rfl | trivial⟩
                       case measure => simp [intOf];omega
                 · obtain rfl:q = W.size:=by omega
                   have hall:(strL W).all isDig = true:=by
                    rw [List.all_eq_true]
                    intro c hc
                    obtain ⟨j,hj,rfl⟩:=List.mem_iff_getElem.1 hc
                    exact HDg.out j _ (by rw [← strL_length];exact hj) (List.getElem?_eq_getElem hj)
                   have hde:d = decL (strL W):=by have:=HD.out;rwa [List.take_of_length_le (by rw [strL_length];exact Nat.le_refl _)] at this
                   have hwv:wordV (strL W) = some d:=by
                    unfold wordV
                    rw [if_neg,hde]
                    rintro (e | e | e | ⟨e,e'⟩)
                    · have:=congrArg List.length e;rw [strL_length,List.length_nil] at this;omega
                    · rw [strL_length] at e;omega
                    · rw [hall] at e;cases e
                    · rw [strL_length] at e;rw [HHd.out] at e';exact HZ.out ⟨Option.some.inj e',e⟩
                   obtain ⟨hn1,hn2⟩:=HN.out d hwv
                   have HN1:=hide hn1
                   have HN2:=hide hn2
                   clear hall hde hwv hn1 hn2 HN HF HD HDg
                   go_wp2_with (at_builtin;refine wpList_append_lies _ rfl (.tmp 73) (.tmp 75) 93 rfl w.heap.size 22 i0 (.int .u64 0) 1 8 Tryz.underlying93 hi hz0 hz1 hz2 rfl (by decide) _ _ _ rfl (hown.out.alloc _) ⟨wr.heap.size,0,none⟩ 1 1 [.int .u64 d] rfl rfl (cell_one_new _ _ _) (by intro u hu;simp at hu;subst hu;rfl) (by decide) (by unfold maxLen;omega) (by omega) (by simp;omega) (wr.heap.size + 1) (by simp) ?_;intro g1 cap1 w2 hown2 hgr2 hat2 hlt2)
                   have hbe2:Below w.heap.size w w2:=(hbe.alloc hz (.cells #[.int .u64 d] 22)).grown hgr2 (by simp;omega) (fun g hg => (hown.out.lt g hg).1)
                   go_roundw
                   case rel => exact ⟨k + 1,⟨#[]⟩,ys ++ [d],by go_num,rfl,by omega,by show 0 ≤ _;omega,by simp;omega,hide (by rw [show strL ⟨#[]⟩ = [] from rfl];simp),hide (fun h => by rw [show strL ⟨#[]⟩ = [] from rfl,List.nil_append];exact HN1.out h),hide HN2.out,hide (by rw [List.length_append,List.map_append];exact hown2),hbe2⟩
                   case measure => simp [intOf];omega
              · subst e
                cases cz
                · clear hcut hsz HBoth
                  go_wp2_with fail
                  go_loopw [7,8] (fun vn vi wx => ∃ (q d:Nat),q ≤ W.size ∧ vi = .int .i64 q ∧ vn = .int .u64 d ∧ Hid (d = decL ((strL W).take q)) ∧ d < 10 ^ q ∧ Hid (∀ j c,j < q → (strL W)[j]? = some c → isDig c = true) ∧ wr = wx) (fun _ vi _ => W.size - (intOf vi).toNat)
                  case atStart => exact ⟨0,0,by omega,rfl,rfl,hide (by rw [List.take_zero];rfl),by decide,hide (fun j c hj _ => by omega),rfl⟩
                  case round =>
                   obtain ⟨q,d,hq,rfl,rfl,HD,hd,HDg,rfl⟩:=hrel
                   have hd15:d < 1000000000000000:=Nat.lt_of_lt_of_le hd (Nat.pow_le_pow_right (n:=10) (by decide) (show q ≤ 15 by omega))
                   by_cases hqW:q < W.size
                   · obtain ⟨c,hc⟩:∃ c,c = byt W q:=⟨_,rfl⟩
                     have hc256:c < 256:=by rw [hc];exact byt_lt W q
                     have hcs:(W[q]'hqW).toNat = c:=by rw [hc,byt_of]
                     have hget:(strL W)[q]? = some c:=by rw [strL_get hqW,hc]
                     have htk:decL ((strL W).take (q + 1)) = 10 * d + (c - 48):=by rw [List.take_add_one,hget,HD.out];exact decL_snoc _ _
                     have HGet:=hide hget
                     have HTk:=hide htk
                     clear hc hget htk
                     by_cases hlo:c < 48
                     · have hloI:(c:Int) < 48:=by omega
                       have HNo:=hide (wordV_none (w:=strL W) (.inr (.inr (.inl (all_take HGet.out (isDig_lo hlo))))))
                       clear hlo
                       go_wp2_with fail
                       go_ret2
                       exact ⟨.inl ⟨HF.out HNo.out,rfl⟩,hbe⟩
                     · have hloI:¬ (c:Int) < 48:=by omega
                       by_cases hhi:57 < c
                       · have hhiI:(57:Int) < (c:Int):=by omega
                         have HNo:=hide (wordV_none (w:=strL W) (.inr (.inr (.inl (all_take HGet.out (isDig_hi hhi))))))
                         clear hhi hlo
                         go_wp2_with fail
                         go_ret2
                         exact ⟨.inl ⟨HF.out HNo.out,rfl⟩,hbe⟩
                       · have hhiI:¬ (57:Int) < (c:Int):=by omega
                         obtain ⟨x,hx⟩:∃ x,c = 48 + x:=⟨c - 48,by omega⟩
                         have hx9:x ≤ 9:=by omega
                         have hcx:(c:Int) - 48 = (x:Int):=by omega
                         have hcx2:IntKind.u8.wrap (x:Int) = (x:Int):=by rw [IntKind.wrap_u8];omega
                         have hdx:IntKind.u64.wrap (10 * (d:Int)) = 10 * (d:Int):=by rw [IntKind.wrap_u64];omega
                         have hdy:IntKind.u64.wrap (10 * (d:Int) + (x:Int)) = 10 * (d:Int) + (x:Int):=by rw [IntKind.wrap_u64];omega
                         have hxw:IntKind.u64.wrap (x:Int) = (x:Int):=by rw [IntKind.wrap_u64];omega
                         have HX:=hide hx
                         have hpw:10 ^ (q + 1) = 10 * 10 ^ q:=by rw [Nat.pow_succ,Nat.mul_comm]
                         have HPw:=hide hpw
                         clear hx hlo hhi hpw
                         go_wp2_with fail
                         go_roundw
                         case rel => exact ⟨q + 1,10 * d + x,by omega,by go_num,by go_num,hide (by rw [HTk.out,HX.out,Nat.add_sub_cancel_left]),by rw [HPw.out];omega,hide (fun j c' hj hc' => by
                          by_cases e:j = q
                          · subst e;rw [HGet.out] at hc';cases hc';have:=HX.out;exact isDig_ok (by omega) (by omega)
                          · exact HDg.out j c' (by omega) hc'),by first | rfl | trivial⟩
                         case measure => simp [intOf];omega
                   · obtain rfl:q = W.size:=by omega
                     have hall:(strL W).all isDig = true:=by
                      rw [List.all_eq_true]
                      intro c hc
                      obtain ⟨j,hj,rfl⟩:=List.mem_iff_getElem.1 hc
                      exact HDg.out j _ (by rw [← strL_length];exact hj) (List.getElem?_eq_getElem hj)
                     have hde:d = decL (strL W):=by have:=HD.out;rwa [List.take_of_length_le (by rw [strL_length];exact Nat.le_refl _)] at this
                     have hwv:wordV (strL W) = some d:=by
                      unfold wordV
                      rw [if_neg,hde]
                      rintro (e | e | e | ⟨e,e'⟩)
                      · have:=congrArg List.length e;rw [strL_length,List.length_nil] at this;omega
                      · rw [strL_length] at e;omega
                      · rw [hall] at e;cases e
                      · rw [strL_length] at e;rw [HHd.out] at e';exact HZ.out ⟨Option.some.inj e',e⟩
                     obtain ⟨hn1,hn2⟩:=HN.out d hwv
                     have HN1:=hide hn1
                     have HN2:=hide hn2
                     clear hall hde hwv hn1 hn2 HN HF HD HDg
                     go_wp2_with (at_builtin;refine wpList_append_lies _ rfl (.tmp 73) (.tmp 75) 93 rfl w.heap.size 22 i0 (.int .u64 0) 1 8 Tryz.underlying93 hi hz0 hz1 hz2 rfl (by decide) _ _ _ rfl (hown.out.alloc _) ⟨wr.heap.size,0,none⟩ 1 1 [.int .u64 d] rfl rfl (cell_one_new _ _ _) (by intro u hu;simp at hu;subst hu;rfl) (by decide) (by unfold maxLen;omega) (by omega) (by simp;omega) (wr.heap.size + 1) (by simp) ?_;intro g1 cap1 w2 hown2 hgr2 hat2 hlt2)
                     have hbe2:Below w.heap.size w w2:=(hbe.alloc hz (.cells #[.int .u64 d] 22)).grown hgr2 (by simp;omega) (fun g hg => (hown.out.lt g hg).1)
                     go_roundw
                     case rel => exact ⟨k + 1,⟨#[]⟩,ys ++ [d],by go_num,rfl,by omega,by show 0 ≤ _;omega,by simp;omega,hide (by rw [show strL ⟨#[]⟩ = [] from rfl];simp),hide (fun h => by rw [show strL ⟨#[]⟩ = [] from rfl,List.nil_append];exact HN1.out h),hide HN2.out,hide (by rw [List.length_append,List.map_append];exact hown2),hbe2⟩
                     case measure => simp [intOf];omega
                · clear hcut HBoth
                  go_wp2_with fail
                  go_loopw [7,8] (fun vn vi wx => ∃ (q d:Nat),q ≤ W.size ∧ vi = .int .i64 q ∧ vn = .int .u64 d ∧ Hid (d = decL ((strL W).take q)) ∧ d < 10 ^ q ∧ Hid (∀ j c,j < q → (strL W)[j]? = some c → isDig c = true) ∧ wr = wx) (fun _ vi _ => W.size - (intOf vi).toNat)
                  case atStart => exact ⟨0,0,by omega,rfl,rfl,hide (by rw [List.take_zero];rfl),by decide,hide (fun j c hj _ => by omega),rfl⟩
                  case round =>
                   obtain ⟨q,d,hq,rfl,rfl,HD,hd,HDg,rfl⟩:=hrel
                   have hd15:d < 1000000000000000:=Nat.lt_of_lt_of_le hd (Nat.pow_le_pow_right (n:=10) (by decide) (show q ≤ 15 by omega))
                   by_cases hqW:q < W.size
                   · obtain ⟨c,hc⟩:∃ c,c = byt W q:=⟨_,rfl⟩
                     have hc256:c < 256:=by rw [hc];exact byt_lt W q
                     have hcs:(W[q]'hqW).toNat = c:=by rw [hc,byt_of]
                     have hget:(strL W)[q]? = some c:=by rw [strL_get hqW,hc]
                     have htk:decL ((strL W).take (q + 1)) = 10 * d + (c - 48):=by rw [List.take_add_one,hget,HD.out];exact decL_snoc _ _
                     have HGet:=hide hget
                     have HTk:=hide htk
                     clear hc hget htk
                     by_cases hlo:c < 48
                     · have hloI:(c:Int) < 48:=by omega
                       have HNo:=hide (wordV_none (w:=strL W) (.inr (.inr (.inl (all_take HGet.out (isDig_lo hlo))))))
                       clear hlo
                       go_wp2_with fail
                       go_ret2
                       exact ⟨.inl ⟨HF.out HNo.out,rfl⟩,hbe⟩
                     · have hloI:¬ (c:Int) < 48:=by omega
                       by_cases hhi:57 < c
                       · have hhiI:(57:Int) < (c:Int):=by omega
                         have HNo:=hide (wordV_none (w:=strL W) (.inr (.inr (.inl (all_take HGet.out (isDig_hi hhi))))))
                         clear hhi hlo
                         go_wp2_with fail
                         go_ret2
                         exact ⟨.inl ⟨HF.out HNo.out,rfl⟩,hbe⟩
                       · have hhiI:¬ (57:Int) < (c:Int):=by omega
                         obtain ⟨x,hx⟩:∃ x,c = 48 + x:=⟨c - 48,by omega⟩
                         have hx9:x ≤ 9:=by omega
                         have hcx:(c:Int) - 48 = (x:Int):=by omega
                         have hcx2:IntKind.u8.wrap (x:Int) = (x:Int):=by rw [IntKind.wrap_u8];omega
                         have hdx:IntKind.u64.wrap (10 * (d:Int)) = 10 * (d:Int):=by rw [IntKind.wrap_u64];omega
                         have hdy:IntKind.u64.wrap (10 * (d:Int) + (x:Int)) = 10 * (d:Int) + (x:Int):=by rw [IntKind.wrap_u64];omega
                         have hxw:IntKind.u64.wrap (x:Int) = (x:Int):=by rw [IntKind.wrap_u64];omega
                         have HX:=hide hx
                         have hpw:10 ^ (q + 1) = 10 * 10 ^ q:=by rw [Nat.pow_succ,Nat.mul_comm]
                         have HPw:=hide hpw
                         clear hx hlo hhi hpw
                         go_wp2_with fail
                         go_roundw
                         case rel => exact ⟨q + 1,10 * d + x,by omega,by go_num,by go_num,hide (by rw [HTk.out,HX.out,Nat.add_sub_cancel_left]),by rw [HPw.out];omega,hide (fun j c' hj hc' => by
                          by_cases e:j = q
                          · subst e;rw [HGet.out] at hc';cases hc';have:=HX.out;exact isDig_ok (by omega) (by omega)
                          · exact HDg.out j c' (by omega) hc'),by first | rfl | trivial⟩
                         case measure => simp [intOf];omega
                   · obtain rfl:q = W.size:=by omega
                     have hall:(strL W).all isDig = true:=by
                      rw [List.all_eq_true]
                      intro c hc
                      obtain ⟨j,hj,rfl⟩:=List.mem_iff_getElem.1 hc
                      exact HDg.out j _ (by rw [← strL_length];exact hj) (List.getElem?_eq_getElem hj)
                     have hde:d = decL (strL W):=by have:=HD.out;rwa [List.take_of_length_le (by rw [strL_length];exact Nat.le_refl _)] at this
                     have hwv:wordV (strL W) = some d:=by
                      unfold wordV
                      rw [if_neg,hde]
                      rintro (e | e | e | ⟨e,e'⟩)
                      · have:=congrArg List.length e;rw [strL_length,List.length_nil] at this;omega
                      · rw [strL_length] at e;omega
                      · rw [hall] at e;cases e
                      · rw [strL_length] at e;rw [HHd.out] at e';exact HZ.out ⟨Option.some.inj e',e⟩
                     obtain ⟨hn1,hn2⟩:=HN.out d hwv
                     have HN1:=hide hn1
                     have HN2:=hide hn2
                     clear hall hde hwv hn1 hn2 HN HF HD HDg
                     go_wp2_with (at_builtin;refine wpList_append_lies _ rfl (.tmp 73) (.tmp 75) 93 rfl w.heap.size 22 i0 (.int .u64 0) 1 8 Tryz.underlying93 hi hz0 hz1 hz2 rfl (by decide) _ _ _ rfl (hown.out.alloc _) ⟨wr.heap.size,0,none⟩ 1 1 [.int .u64 d] rfl rfl (cell_one_new _ _ _) (by intro u hu;simp at hu;subst hu;rfl) (by decide) (by unfold maxLen;omega) (by omega) (by simp;omega) (wr.heap.size + 1) (by simp) ?_;intro g1 cap1 w2 hown2 hgr2 hat2 hlt2)
                     have hbe2:Below w.heap.size w w2:=(hbe.alloc hz (.cells #[.int .u64 d] 22)).grown hgr2 (by simp;omega) (fun g hg => (hown.out.lt g hg).1)
                     go_roundw
                     case rel => exact ⟨k + 1,⟨#[]⟩,ys ++ [d],by go_num,rfl,by omega,by show 0 ≤ _;omega,by simp;omega,hide (by rw [show strL ⟨#[]⟩ = [] from rfl];simp),hide (fun h => by rw [show strL ⟨#[]⟩ = [] from rfl,List.nil_append];exact HN1.out h),hide HN2.out,hide (by rw [List.length_append,List.map_append];exact hown2),hbe2⟩
                     case measure => simp [intOf];omega
      · clear hblank
        rcases Nat.eq_zero_or_pos W.size with hw0 | hw0
        · have:=size_zero hw0
          subst this
          have HNo:wordV (strL ⟨#[]⟩) = none:=wordV_none (.inl rfl)
          have HNo:=hide HNo
          clear hw0
          go_wp2_with fail
          go_ret2
          exact ⟨.inl ⟨HF.out HNo.out,rfl⟩,hbe⟩
        · have hE:=not_empty (by omega:W.size ≠ 0)
          obtain ⟨c0,hc0⟩:∃ c,c = byt W 0:=⟨_,rfl⟩
          have hc0s:(W[0]'hw0).toNat = c0:=by rw [hc0,byt_of]
          have hhead:(strL W).head? = some c0:=by rw [List.head?_eq_getElem?,strL_get hw0,hc0]
          have HHd:=hide hhead
          clear hc0 hhead
          by_cases hw15:15 < W.size
          · have HNo:=hide (wordV_none (w:=strL W) (.inr (.inl (by rw [strL_length];exact hw15))))
            have h15:(15:Int) < (W.size:Int):=by omega
            clear hw15
            go_wp2_with fail
            go_ret2
            exact ⟨.inl ⟨HF.out HNo.out,rfl⟩,hbe⟩
          · have h15:¬ (15:Int) < (W.size:Int):=by omega
            have h15':W.size ≤ 15:=by omega
            clear hw15
            by_cases hz48:c0 = 48 ∧ 1 < W.size
            · obtain ⟨hz1,hz2⟩:=hz48
              have HNo:=hide (wordV_none (w:=strL W) (.inr (.inr (.inr ⟨by rw [strL_length];exact hz2,by rw [HHd.out,hz1]⟩))))
              have hcz:((c0:Int) == 48) = true:=by simp;omega
              have hz2':(1:Int) < (W.size:Int):=by omega
              clear hz1 hz2
              go_wp2_with fail
              go_ret2
              exact ⟨.inl ⟨HF.out HNo.out,rfl⟩,hbe⟩
            · have HZ:=hide hz48
              obtain ⟨cz,hcz⟩:∃ b,((c0:Int) == 48) = b:=⟨_,rfl⟩
              obtain ⟨sz,hsz⟩:∃ b,decide ((1:Int) < (W.size:Int)) = b:=⟨_,rfl⟩
              have hboth:cz = false ∨ sz = false:=by
               cases cz
               · exact .inl rfl
               · right
                 cases sz
                 · rfl
                 · exact absurd ⟨by simp at hcz;omega,by have:=of_decide_eq_true hsz;omega⟩ HZ.out
              have HBoth:=hide hboth
              clear hz48 hboth
              obtain ⟨cut,hcut⟩:∃ b,b = (if cz = true then sz else false):=⟨_,rfl⟩
              rcases HBoth.out with e | e
              · subst e
                clear hcut hsz HBoth
                go_wp2_with fail
                go_loopw [7,8] (fun vn vi wx => ∃ (q d:Nat),q ≤ W.size ∧ vi = .int .i64 q ∧ vn = .int .u64 d ∧ Hid (d = decL ((strL W).take q)) ∧ d < 10 ^ q ∧ Hid (∀ j c,j < q → (strL W)[j]? = some c → isDig c = true) ∧ wr = wx) (fun _ vi _ => W.size - (intOf vi).toNat)
                case atStart => exact ⟨0,0,by omega,rfl,rfl,hide (by rw [List.take_zero];rfl),by decide,hide (fun j c hj _ => by omega),rfl⟩
                case round =>
                 obtain ⟨q,d,hq,rfl,rfl,HD,hd,HDg,rfl⟩:=hrel
                 have hd15:d < 1000000000000000:=Nat.lt_of_lt_of_le hd (Nat.pow_le_pow_right (n:=10) (by decide) (show q ≤ 15 by omega))
                 by_cases hqW:q < W.size
                 · obtain ⟨c,hc⟩:∃ c,c = byt W q:=⟨_,rfl⟩
                   have hc256:c < 256:=by rw [hc];exact byt_lt W q
                   have hcs:(W[q]'hqW).toNat = c:=by rw [hc,byt_of]
                   have hget:(strL W)[q]? = some c:=by rw [strL_get hqW,hc]
                   have htk:decL ((strL W).take (q + 1)) = 10 * d + (c - 48):=by rw [List.take_add_one,hget,HD.out];exact decL_snoc _ _
                   have HGet:=hide hget
                   have HTk:=hide htk
                   clear hc hget htk
                   by_cases hlo:c < 48
                   · have hloI:(c:Int) < 48:=by omega
                     have HNo:=hide (wordV_none (w:=strL W) (.inr (.inr (.inl (all_take HGet.out (isDig_lo hlo))))))
                     clear hlo
                     go_wp2_with fail
                     go_ret2
                     exact ⟨.inl ⟨HF.out HNo.out,rfl⟩,hbe⟩
                   · have hloI:¬ (c:Int) < 48:=by omega
                     by_cases hhi:57 < c
                     · have hhiI:(57:Int) < (c:Int):=by omega
                       have HNo:=hide (wordV_none (w:=strL W) (.inr (.inr (.inl (all_take HGet.out (isDig_hi hhi))))))
                       clear hhi hlo
                       go_wp2_with fail
                       go_ret2
                       exact ⟨.inl ⟨HF.out HNo.out,rfl⟩,hbe⟩
                     · have hhiI:¬ (57:Int) < (c:Int):=by omega
                       obtain ⟨x,hx⟩:∃ x,c = 48 + x:=⟨c - 48,by omega⟩
                       have hx9:x ≤ 9:=by omega
                       have hcx:(c:Int) - 48 = (x:Int):=by omega
                       have hcx2:IntKind.u8.wrap (x:Int) = (x:Int):=by rw [IntKind.wrap_u8];omega
                       have hdx:IntKind.u64.wrap (10 * (d:Int)) = 10 * (d:Int):=by rw [IntKind.wrap_u64];omega
                       have hdy:IntKind.u64.wrap (10 * (d:Int) + (x:Int)) = 10 * (d:Int) + (x:Int):=by rw [IntKind.wrap_u64];omega
                       have hxw:IntKind.u64.wrap (x:Int) = (x:Int):=by rw [IntKind.wrap_u64];omega
                       have HX:=hide hx
                       have hpw:10 ^ (q + 1) = 10 * 10 ^ q:=by rw [Nat.pow_succ,Nat.mul_comm]
                       have HPw:=hide hpw
                       clear hx hlo hhi hpw
                       go_wp2_with fail
                       go_roundw
                       case rel => exact ⟨q + 1,10 * d + x,by omega,by go_num,by go_num,hide (by rw [HTk.out,HX.out,Nat.add_sub_cancel_left]),by rw [HPw.out];omega,hide (fun j c' hj hc' => by
                        by_cases e:j = q
                        · subst e;rw [HGet.out] at hc';cases hc';have:=HX.out;exact isDig_ok (by omega) (by omega)
                        · exact HDg.out j c' (by omega) hc'),by first | rfl | trivial⟩
                       case measure => simp [intOf];omega
                 · obtain rfl:q = W.size:=by omega
                   have hall:(strL W).all isDig = true:=by
                    rw [List.all_eq_true]
                    intro c hc
                    obtain ⟨j,hj,rfl⟩:=List.mem_iff_getElem.1 hc
                    exact HDg.out j _ (by rw [← strL_length];exact hj) (List.getElem?_eq_getElem hj)
                   have hde:d = decL (strL W):=by have:=HD.out;rwa [List.take_of_length_le (by rw [strL_length];exact Nat.le_refl _)] at this
                   have hwv:wordV (strL W) = some d:=by
                    unfold wordV
                    rw [if_neg,hde]
                    rintro (e | e | e | ⟨e,e'⟩)
                    · have:=congrArg List.length e;rw [strL_length,List.length_nil] at this;omega
                    · rw [strL_length] at e;omega
                    · rw [hall] at e;cases e
                    · rw [strL_length] at e;rw [HHd.out] at e';exact HZ.out ⟨Option.some.inj e',e⟩
                   obtain ⟨hn1,hn2⟩:=HN.out d hwv
                   have HN1:=hide hn1
                   have HN2:=hide hn2
                   clear hall hde hwv hn1 hn2 HN HF HD HDg
                   go_wp2_with (at_builtin;refine wpList_append_lies _ rfl (.tmp 73) (.tmp 75) 93 rfl w.heap.size 22 i0 (.int .u64 0) 1 8 Tryz.underlying93 hi hz0 hz1 hz2 rfl (by decide) _ _ _ rfl (hown.out.alloc _) ⟨wr.heap.size,0,none⟩ 1 1 [.int .u64 d] rfl rfl (cell_one_new _ _ _) (by intro u hu;simp at hu;subst hu;rfl) (by decide) (by unfold maxLen;omega) (by omega) (by simp;omega) (wr.heap.size + 1) (by simp) ?_;intro g1 cap1 w2 hown2 hgr2 hat2 hlt2)
                   have hbe2:Below w.heap.size w w2:=(hbe.alloc hz (.cells #[.int .u64 d] 22)).grown hgr2 (by simp;omega) (fun g hg => (hown.out.lt g hg).1)
                   go_roundw
                   case rel => exact ⟨k + 1,⟨#[]⟩,ys ++ [d],by go_num,rfl,by omega,by show 0 ≤ _;omega,by simp;omega,hide (by rw [show strL ⟨#[]⟩ = [] from rfl];simp),hide (fun h => by rw [show strL ⟨#[]⟩ = [] from rfl,List.nil_append];exact HN1.out h),hide HN2.out,hide (by rw [List.length_append,List.map_append];exact hown2),hbe2⟩
                   case measure => simp [intOf];omega
              · subst e
                cases cz
                · clear hcut hsz HBoth
                  go_wp2_with fail
                  go_loopw [7,8] (fun vn vi wx => ∃ (q d:Nat),q ≤ W.size ∧ vi = .int .i64 q ∧ vn = .int .u64 d ∧ Hid (d = decL ((strL W).take q)) ∧ d < 10 ^ q ∧ Hid (∀ j c,j < q → (strL W)[j]? = some c → isDig c = true) ∧ wr = wx) (fun _ vi _ => W.size - (intOf vi).toNat)
                  case atStart => exact ⟨0,0,by omega,rfl,rfl,hide (by rw [List.take_zero];rfl),by decide,hide (fun j c hj _ => by omega),rfl⟩
                  case round =>
                   obtain ⟨q,d,hq,rfl,rfl,HD,hd,HDg,rfl⟩:=hrel
                   have hd15:d < 1000000000000000:=Nat.lt_of_lt_of_le hd (Nat.pow_le_pow_right (n:=10) (by decide) (show q ≤ 15 by omega))
                   by_cases hqW:q < W.size
                   · obtain ⟨c,hc⟩:∃ c,c = byt W q:=⟨_,rfl⟩
                     have hc256:c < 256:=by rw [hc];exact byt_lt W q
                     have hcs:(W[q]'hqW).toNat = c:=by rw [hc,byt_of]
                     have hget:(strL W)[q]? = some c:=by rw [strL_get hqW,hc]
                     have htk:decL ((strL W).take (q + 1)) = 10 * d + (c - 48):=by rw [List.take_add_one,hget,HD.out];exact decL_snoc _ _
                     have HGet:=hide hget
                     have HTk:=hide htk
                     clear hc hget htk
                     by_cases hlo:c < 48
                     · have hloI:(c:Int) < 48:=by omega
                       have HNo:=hide (wordV_none (w:=strL W) (.inr (.inr (.inl (all_take HGet.out (isDig_lo hlo))))))
                       clear hlo
                       go_wp2_with fail
                       go_ret2
                       exact ⟨.inl ⟨HF.out HNo.out,rfl⟩,hbe⟩
                     · have hloI:¬ (c:Int) < 48:=by omega
                       by_cases hhi:57 < c
                       · have hhiI:(57:Int) < (c:Int):=by omega
                         have HNo:=hide (wordV_none (w:=strL W) (.inr (.inr (.inl (all_take HGet.out (isDig_hi hhi))))))
                         clear hhi hlo
                         go_wp2_with fail
                         go_ret2
                         exact ⟨.inl ⟨HF.out HNo.out,rfl⟩,hbe⟩
                       · have hhiI:¬ (57:Int) < (c:Int):=by omega
                         obtain ⟨x,hx⟩:∃ x,c = 48 + x:=⟨c - 48,by omega⟩
                         have hx9:x ≤ 9:=by omega
                         have hcx:(c:Int) - 48 = (x:Int):=by omega
                         have hcx2:IntKind.u8.wrap (x:Int) = (x:Int):=by rw [IntKind.wrap_u8];omega
                         have hdx:IntKind.u64.wrap (10 * (d:Int)) = 10 * (d:Int):=by rw [IntKind.wrap_u64];omega
                         have hdy:IntKind.u64.wrap (10 * (d:Int) + (x:Int)) = 10 * (d:Int) + (x:Int):=by rw [IntKind.wrap_u64];omega
                         have hxw:IntKind.u64.wrap (x:Int) = (x:Int):=by rw [IntKind.wrap_u64];omega
                         have HX:=hide hx
                         have hpw:10 ^ (q + 1) = 10 * 10 ^ q:=by rw [Nat.pow_succ,Nat.mul_comm]
                         have HPw:=hide hpw
                         clear hx hlo hhi hpw
                         go_wp2_with fail
                         go_roundw
                         case rel => exact ⟨q + 1,10 * d + x,by omega,by go_num,by go_num,hide (by rw [HTk.out,HX.out,Nat.add_sub_cancel_left]),by rw [HPw.out];omega,hide (fun j c' hj hc' => by
                          by_cases e:j = q
                          · subst e;rw [HGet.out] at hc';cases hc';have:=HX.out;exact isDig_ok (by omega) (by omega)
                          · exact HDg.out j c' (by omega) hc'),by first | rfl | trivial⟩
                         case measure => simp [intOf];omega
                   · obtain rfl:q = W.size:=by omega
                     have hall:(strL W).all isDig = true:=by
                      rw [List.all_eq_true]
                      intro c hc
                      obtain ⟨j,hj,rfl⟩:=List.mem_iff_getElem.1 hc
                      exact HDg.out j _ (by rw [← strL_length];exact hj) (List.getElem?_eq_getElem hj)
                     have hde:d = decL (strL W):=by have:=HD.out;rwa [List.take_of_length_le (by rw [strL_length];exact Nat.le_refl _)] at this
                     have hwv:wordV (strL W) = some d:=by
                      unfold wordV
                      rw [if_neg,hde]
                      rintro (e | e | e | ⟨e,e'⟩)
                      · have:=congrArg List.length e;rw [strL_length,List.length_nil] at this;omega
                      · rw [strL_length] at e;omega
                      · rw [hall] at e;cases e
                      · rw [strL_length] at e;rw [HHd.out] at e';exact HZ.out ⟨Option.some.inj e',e⟩
                     obtain ⟨hn1,hn2⟩:=HN.out d hwv
                     have HN1:=hide hn1
                     have HN2:=hide hn2
                     clear hall hde hwv hn1 hn2 HN HF HD HDg
                     go_wp2_with (at_builtin;refine wpList_append_lies _ rfl (.tmp 73) (.tmp 75) 93 rfl w.heap.size 22 i0 (.int .u64 0) 1 8 Tryz.underlying93 hi hz0 hz1 hz2 rfl (by decide) _ _ _ rfl (hown.out.alloc _) ⟨wr.heap.size,0,none⟩ 1 1 [.int .u64 d] rfl rfl (cell_one_new _ _ _) (by intro u hu;simp at hu;subst hu;rfl) (by decide) (by unfold maxLen;omega) (by omega) (by simp;omega) (wr.heap.size + 1) (by simp) ?_;intro g1 cap1 w2 hown2 hgr2 hat2 hlt2)
                     have hbe2:Below w.heap.size w w2:=(hbe.alloc hz (.cells #[.int .u64 d] 22)).grown hgr2 (by simp;omega) (fun g hg => (hown.out.lt g hg).1)
                     go_roundw
                     case rel => exact ⟨k + 1,⟨#[]⟩,ys ++ [d],by go_num,rfl,by omega,by show 0 ≤ _;omega,by simp;omega,hide (by rw [show strL ⟨#[]⟩ = [] from rfl];simp),hide (fun h => by rw [show strL ⟨#[]⟩ = [] from rfl,List.nil_append];exact HN1.out h),hide HN2.out,hide (by rw [List.length_append,List.map_append];exact hown2),hbe2⟩
                     case measure => simp [intOf];omega
                · clear hcut HBoth
                  go_wp2_with fail
                  go_loopw [7,8] (fun vn vi wx => ∃ (q d:Nat),q ≤ W.size ∧ vi = .int .i64 q ∧ vn = .int .u64 d ∧ Hid (d = decL ((strL W).take q)) ∧ d < 10 ^ q ∧ Hid (∀ j c,j < q → (strL W)[j]? = some c → isDig c = true) ∧ wr = wx) (fun _ vi _ => W.size - (intOf vi).toNat)
                  case atStart => exact ⟨0,0,by omega,rfl,rfl,hide (by rw [List.take_zero];rfl),by decide,hide (fun j c hj _ => by omega),rfl⟩
                  case round =>
                   obtain ⟨q,d,hq,rfl,rfl,HD,hd,HDg,rfl⟩:=hrel
                   have hd15:d < 1000000000000000:=Nat.lt_of_lt_of_le hd (Nat.pow_le_pow_right (n:=10) (by decide) (show q ≤ 15 by omega))
                   by_cases hqW:q < W.size
                   · obtain ⟨c,hc⟩:∃ c,c = byt W q:=⟨_,rfl⟩
                     have hc256:c < 256:=by rw [hc];exact byt_lt W q
                     have hcs:(W[q]'hqW).toNat = c:=by rw [hc,byt_of]
                     have hget:(strL W)[q]? = some c:=by rw [strL_get hqW,hc]
                     have htk:decL ((strL W).take (q + 1)) = 10 * d + (c - 48):=by rw [List.take_add_one,hget,HD.out];exact decL_snoc _ _
                     have HGet:=hide hget
                     have HTk:=hide htk
                     clear hc hget htk
                     by_cases hlo:c < 48
                     · have hloI:(c:Int) < 48:=by omega
                       have HNo:=hide (wordV_none (w:=strL W) (.inr (.inr (.inl (all_take HGet.out (isDig_lo hlo))))))
                       clear hlo
                       go_wp2_with fail
                       go_ret2
                       exact ⟨.inl ⟨HF.out HNo.out,rfl⟩,hbe⟩
                     · have hloI:¬ (c:Int) < 48:=by omega
                       by_cases hhi:57 < c
                       · have hhiI:(57:Int) < (c:Int):=by omega
                         have HNo:=hide (wordV_none (w:=strL W) (.inr (.inr (.inl (all_take HGet.out (isDig_hi hhi))))))
                         clear hhi hlo
                         go_wp2_with fail
                         go_ret2
                         exact ⟨.inl ⟨HF.out HNo.out,rfl⟩,hbe⟩
                       · have hhiI:¬ (57:Int) < (c:Int):=by omega
                         obtain ⟨x,hx⟩:∃ x,c = 48 + x:=⟨c - 48,by omega⟩
                         have hx9:x ≤ 9:=by omega
                         have hcx:(c:Int) - 48 = (x:Int):=by omega
                         have hcx2:IntKind.u8.wrap (x:Int) = (x:Int):=by rw [IntKind.wrap_u8];omega
                         have hdx:IntKind.u64.wrap (10 * (d:Int)) = 10 * (d:Int):=by rw [IntKind.wrap_u64];omega
                         have hdy:IntKind.u64.wrap (10 * (d:Int) + (x:Int)) = 10 * (d:Int) + (x:Int):=by rw [IntKind.wrap_u64];omega
                         have hxw:IntKind.u64.wrap (x:Int) = (x:Int):=by rw [IntKind.wrap_u64];omega
                         have HX:=hide hx
                         have hpw:10 ^ (q + 1) = 10 * 10 ^ q:=by rw [Nat.pow_succ,Nat.mul_comm]
                         have HPw:=hide hpw
                         clear hx hlo hhi hpw
                         go_wp2_with fail
                         go_roundw
                         case rel => exact ⟨q + 1,10 * d + x,by omega,by go_num,by go_num,hide (by rw [HTk.out,HX.out,Nat.add_sub_cancel_left]),by rw [HPw.out];omega,hide (fun j c' hj hc' => by
                          by_cases e:j = q
                          · subst e;rw [HGet.out] at hc';cases hc';have:=HX.out;exact isDig_ok (by omega) (by omega)
                          · exact HDg.out j c' (by omega) hc'),by first | rfl | trivial⟩
                         case measure => simp [intOf];omega
                   · obtain rfl:q = W.size:=by omega
                     have hall:(strL W).all isDig = true:=by
                      rw [List.all_eq_true]
                      intro c hc
                      obtain ⟨j,hj,rfl⟩:=List.mem_iff_getElem.1 hc
                      exact HDg.out j _ (by rw [← strL_length];exact hj) (List.getElem?_eq_getElem hj)
                     have hde:d = decL (strL W):=by have:=HD.out;rwa [List.take_of_length_le (by rw [strL_length];exact Nat.le_refl _)] at this
                     have hwv:wordV (strL W) = some d:=by
                      unfold wordV
                      rw [if_neg,hde]
                      rintro (e | e | e | ⟨e,e'⟩)
                      · have:=congrArg List.length e;rw [strL_length,List.length_nil] at this;omega
                      · rw [strL_length] at e;omega
                      · rw [hall] at e;cases e
                      · rw [strL_length] at e;rw [HHd.out] at e';exact HZ.out ⟨Option.some.inj e',e⟩
                     obtain ⟨hn1,hn2⟩:=HN.out d hwv
                     have HN1:=hide hn1
                     have HN2:=hide hn2
                     clear hall hde hwv hn1 hn2 HN HF HD HDg
                     go_wp2_with (at_builtin;refine wpList_append_lies _ rfl (.tmp 73) (.tmp 75) 93 rfl w.heap.size 22 i0 (.int .u64 0) 1 8 Tryz.underlying93 hi hz0 hz1 hz2 rfl (by decide) _ _ _ rfl (hown.out.alloc _) ⟨wr.heap.size,0,none⟩ 1 1 [.int .u64 d] rfl rfl (cell_one_new _ _ _) (by intro u hu;simp at hu;subst hu;rfl) (by decide) (by unfold maxLen;omega) (by omega) (by simp;omega) (wr.heap.size + 1) (by simp) ?_;intro g1 cap1 w2 hown2 hgr2 hat2 hlt2)
                     have hbe2:Below w.heap.size w w2:=(hbe.alloc hz (.cells #[.int .u64 d] 22)).grown hgr2 (by simp;omega) (fun g hg => (hown.out.lt g hg).1)
                     go_roundw
                     case rel => exact ⟨k + 1,⟨#[]⟩,ys ++ [d],by go_num,rfl,by omega,by show 0 ≤ _;omega,by simp;omega,hide (by rw [show strL ⟨#[]⟩ = [] from rfl];simp),hide (fun h => by rw [show strL ⟨#[]⟩ = [] from rfl,List.nil_append];exact HN1.out h),hide HN2.out,hide (by rw [List.length_append,List.map_append];exact hown2),hbe2⟩
                     case measure => simp [intOf];omega
theorem info_stat:(Tryz.prog.info? 53).map (fun i => (i.zero,i.size,i.bytes)) = some (some (.agg #[.int .i64 0,.int .i64 0,.int .i64 0,.int .i64 0,.int .i64 0,.int .i64 0]),6,48):=by kernel_rfl
def flat6 (ls:List (List Nat)):List Value:=ls.flatMap fun l => l.map fun (x:Nat) => Value.int .i64 x
theorem flat6_snoc (ls:List (List Nat)) (l:List Nat):flat6 (ls ++ [l]) = flat6 ls ++ l.map fun (x:Nat) => Value.int .i64 x:=by unfold flat6;simp
theorem own_formG {w:World} {base e size n:Nat} {v:Value} {xs:List Value} (h:w.ownsRow base e size v n xs):∃ A c,v = .slice A n c:=by
 rcases h.2 with ⟨hv,hn⟩ | ⟨g,cap,cur,hv,_⟩
 · exact ⟨none,0,by rw [hv,hn]⟩
 · exact ⟨_,cap,hv⟩
theorem own_rdG {w:World} {base e size n c:Nat} {A:Option Addr} {xs:List Value} (h:w.ownsRow base e size (.slice A n c) n xs):Rd w w.heap.size A xs:=fun i u hu => by
 rcases h.2 with ⟨hv,hn⟩ | ⟨g,cap,cur,hv,hb,hg,hc⟩
 · have:=h.1
   rw [hn] at this
   have hx:xs = []:=List.eq_nil_of_length_eq_zero (by simpa using this)
   subst hx
   simp at hu
 · simp only [Value.slice.injEq] at hv
   obtain ⟨rfl,_,rfl⟩:=hv
   refine ⟨g,0,rfl,(Array.getElem?_eq_some_iff.1 hg).1, ?_⟩
   have:=h.cells (g:=g) rfl i u hu
   rw [Addr.add_lit] at this
   exact this
def hd4 (h:List Nat):Hd:=⟨h.getD 0 0,h.getD 1 0,0,h.getD 2 0,h.getD 3 0⟩
def RdP (s:List Nat) (w:World) (e:Ending) (w':World):Prop :=
 ((readL s = none ∧ e = .returned (.tuple #[.slice none 0 0,headV ⟨0,0,0,0,0⟩,.int .i64 2])) ∨ ∃ A c ls h,readL s = some (ls,h) ∧ h.length = 4 ∧ (∀ n ∈ h,n < 1000000000000000) ∧ (∀ l ∈ ls,l.length = 6) ∧ e = .returned (.tuple #[.slice A ls.length c,headV (hd4 h),.int .i64 0]) ∧ Rd w' w'.heap.size A (flat6 ls)) ∧ Below w.heap.size w w'
theorem cutN_at {s:List Nat} {f k:Nat} (hf:f ≤ k) (hno:10 ∉ (s.take k).drop f) (hk:s[k]? = some 10):cutN (s.drop f) = some ((s.take k).drop f,s.drop (k + 1)):=by
 have e:s.drop f = (s.take k).drop f ++ 10 :: s.drop (k + 1):=by
  obtain ⟨hk',h10⟩:=List.getElem?_eq_some_iff.1 hk
  have h1:s = s.take k ++ 10 :: s.drop (k + 1):=by rw [← h10,← List.drop_eq_getElem_cons hk',List.take_append_drop]
  conv => lhs;rw [h1]
  rw [List.drop_append_of_le_length (by rw [List.length_take];omega)]
 rw [e]
 exact cutN_line hno
theorem no_step {s:List Nat} {f k c:Nat} (hf:f ≤ k) (hno:10 ∉ (s.take k).drop f) (hk:s[k]? = some c) (hc:c ≠ 10):10 ∉ (s.take (k + 1)).drop f:=by
 obtain ⟨hk',rfl⟩:=List.getElem?_eq_some_iff.1 hk
 rw [List.take_add_one,hk,List.drop_append_of_le_length (by rw [List.length_take];omega)]
 intro h
 rcases List.mem_append.1 h with h | h
 · exact hno h
 · simp at h;exact hc h.symm
theorem six_of {l:List Nat} (h:l.length = 6):∃ a b c d e f,l = [a,b,c,d,e,f]:=by
 match l,h with
 | [a,b,c,d,e,f],_ => exact ⟨a,b,c,d,e,f,rfl⟩
theorem four_of {l:List Nat} (h:l.length = 4):∃ a b c d,l = [a,b,c,d]:=by
 match l,h with
 | [a,b,c,d],_ => exact ⟨a,b,c,d,rfl⟩
set_option maxHeartbeats 8000000 in
theorem refRead_any (s:ByteArray) (w:World) (hs:s.size ≤ 1048576):Calls Tryz.prog 23 #[.string s] w (RdP (strL s) w):=by
 obtain ⟨i0,hi,hz0,hz1,hz2i⟩:=info_parts info_stat
 go_enter Tryz.func23,Tryz.ntmps23
 go_wp2_with fail
 go_loopw [5,6,7] (fun v fv i wr => ∃ (k f fu:Nat) (acc:List (List Nat)),i = .int .i64 k ∧ fv = .int .i64 f ∧ k ≤ s.size ∧ f ≤ k ∧ acc.length ≤ k ∧ Hid (10 ∉ ((strL s).take k).drop f) ∧ Hid (s.size - f < fu ∧ readL (strL s) = readF fu acc ((strL s).drop f)) ∧ Hid (∀ l ∈ acc,l.length = 6) ∧ Hid (wr.ownsRow (w.heap.size + 1) 53 6 v acc.length (flat6 acc)) ∧ Hid (Bk wr w.heap.size 25 #[.int .u64 0,.int .u64 0,.int .u32 0,.int .u64 0,.int .u64 0]) ∧ Hid (Below w.heap.size w wr)) (fun _ _ i _ => s.size - (intOf i).toNat)
 case atStart => exact ⟨0,0,s.size + 1,[],rfl,rfl,by omega,by omega,by simp,hide (by simp),hide ⟨by omega,by rw [List.drop_zero];unfold readL;rw [strL_length]⟩,hide (by simp),hide (World.ownsRow_nil _ _ _ _),hide (Bk.new w _ _),hide ((Below.refl _ _).alloc (Nat.le_refl _) _)⟩
 case round =>
  obtain ⟨k,f,fu,acc,rfl,rfl,hk,hf,hak,HNo,HInv,HSix,hown,HK,HBe⟩:=hrel
  have hz:=HBe.out.size
  have hzk:=HK.out.lt
  obtain ⟨⟨c0,c1,c2,c3,c4⟩,⟨y0,y1,y2,y3,y4⟩⟩:=five_cells HK.out
  by_cases hlt:k < s.size
  · obtain ⟨c,hc⟩:∃ c,c = byt s k:=⟨_,rfl⟩
    have hcs:(s[k]'hlt).toNat = c:=by rw [hc,byt_of]
    have hget:(strL s)[k]? = some c:=by rw [strL_get hlt,hc]
    by_cases h10:c = 10
    · have hcI:((c:Int) != 10) = false:=by simp;omega
      obtain ⟨g,hg⟩:∃ g,fu = g + 1:=⟨fu - 1,by have:=HInv.out.1;omega⟩
      have hcut:=cutN_at hf HNo.out (by rw [hget,h10])
      have hX:strL (s.extract f k) = ((strL s).take k).drop f:=by rw [strL_sub]
      have hXs:(s.extract f k).size ≤ 1048576:=by rw [← strL_length,hX,List.length_drop,List.length_take,strL_length];omega
      obtain ⟨X,hXe⟩:∃ X,X = s.extract f k:=⟨_,rfl⟩
      rw [← hXe] at hX hXs
      have hXe':=hXe.symm
      have hI:=HInv.out.2
      rw [hg,readF,hcut] at hI
      simp only [] at hI
      rw [← hX] at hI
      have nu:=fun (W:World) => refNums_any X W hXs
      unfold NumsP at nu
      obtain ⟨k1,hk1⟩:∃ k1,k1 = k + 1:=⟨_,rfl⟩
      have hk1I:(k:Int) + 1 = (k1:Int):=by omega
      have hk1w:IntKind.i64.wrap (k1:Int) = (k1:Int):=IntWalk.i64_in _ ⟨by omega,by omega⟩
      have hlen1:(strL s).drop k1 = [] ↔ k1 = s.size:=by rw [List.drop_eq_nil_iff,strL_length];omega
      rw [← hk1] at hI
      have HK1:=hide hk1
      have HG:=hide hg
      cases hN:numsL (strL X) with
      | none =>
        rw [hN] at hI
        simp only [] at hI
        have HI:=hide hI
        have nu2:∀ (W:World),Calls Tryz.prog 56 #[.string X] W fun e w' => e = .returned (.tuple #[.slice none 0 0,.bool false]) ∧ Below W.heap.size W w':=fun W => (nu W).mono fun e w' ⟨h,hb⟩ => by
         rcases h with ⟨_,h⟩ | ⟨_,_,l,hl,_⟩
         · exact ⟨h,hb⟩
         · rw [hN] at hl;cases hl
        have HNu:=hide nu2
        clear nu nu2 hI hcut hX hXe hget hc hN h10 hg hk1 hlen1
        go_wp2_with (go_at_call 56;refine (Calls.mono (HNu.out _) ?_);rintro e w2 ⟨rfl,hb2⟩;have k2:=HK.out.keep hb2;clear c0 c1 c2 c3 c4 y0 y1 y2 y3 y4;obtain ⟨⟨c0,c1,c2,c3,c4⟩,⟨y0,y1,y2,y3,y4⟩⟩:=five_cells k2;have K2:=hide k2;have HB2:=hide (HBe.out.trans (hb2.mono hz));clear hb2 k2)
        obtain ⟨⟨t0,t1,t2,t3,t4⟩,_⟩:=five_cells (show Bk (((((w2.setCell ⟨w.heap.size,0,none⟩ (.int .u64 0)).setCell ⟨w.heap.size,1,none⟩ (.int .u64 0)).setCell ⟨w.heap.size,2,none⟩ (.int .u32 0)).setCell ⟨w.heap.size,3,none⟩ (.int .u64 0)).setCell ⟨w.heap.size,4,none⟩ (.int .u64 0)) w.heap.size 25 #[.int .u64 0,.int .u64 0,.int .u32 0,.int .u64 0,.int .u64 0] from (((((K2.out.set_ 0 (.int .u64 0)).set_ 1 (.int .u64 0)).set_ 2 (.int .u32 0)).set_ 3 (.int .u64 0)).set_ 4 (.int .u64 0)))
        refine bodyPost_ret (v:=.tuple #[.slice none 0 0,headV ⟨0,0,0,0,0⟩,.int .i64 2]) (by simp [results,Tryz.results23,go_sem,t0,t1,t2,t3,t4,headV]) rfl ?_
        exact ⟨.inl ⟨HI.out,rfl⟩,(((((HB2.out.setCell (p:=⟨w.heap.size,0,none⟩) (Nat.le_refl _) _).setCell (p:=⟨w.heap.size,1,none⟩) (Nat.le_refl _) _).setCell (p:=⟨w.heap.size,2,none⟩) (Nat.le_refl _) _).setCell (p:=⟨w.heap.size,3,none⟩) (Nat.le_refl _) _).setCell (p:=⟨w.heap.size,4,none⟩) (Nat.le_refl _) _)⟩
      | some l =>
        obtain ⟨hll,hlb⟩:=allV_len (l:=splitL (strL X)) hN
        have nu2:∀ (W:World),Calls Tryz.prog 56 #[.string X] W fun e w' => ∃ A c,e = .returned (.tuple #[.slice A l.length c,.bool true]) ∧ Rd w' w'.heap.size A (l.map u64V) ∧ (∀ a,A = some a → W.heap.size ≤ a.block) ∧ Below W.heap.size W w':=fun W => (nu W).mono fun e w' ⟨h,hb⟩ => by
         rcases h with ⟨hn,_⟩ | ⟨A,c,l',hl,he,hr,hlo⟩
         · rw [hN] at hn;cases hn
         · rw [hN] at hl;cases hl;exact ⟨A,c,he,hr,hlo,hb⟩
        rw [hN] at hI
        simp only [] at hI
        obtain ⟨b1,hb1⟩:∃ b,((k1:Int) == (s.size:Int)) = b:=⟨_,rfl⟩
        have hb1':b1 = true ↔ k1 = s.size:=by rw [← hb1];simp;omega
        have HB1':=hide hb1'
        have HL1:=hide hlen1
        clear nu hcut hX hXe hget hc hN h10 hg hk1 hlen1 hb1' hll
        by_cases h4:k1 = s.size ∧ l.length = 4
        · rw [if_pos ⟨HL1.out.2 h4.1,h4.2⟩] at hI
          have hbt:=HB1'.out.2 h4.1
          subst hbt
          obtain ⟨n0,n1,n2,n3,rfl⟩:=four_of h4.2
          have HI:=hide hI
          have HLb:=hide hlb
          have HNu:=hide nu2
          clear hI h4 nu2 hlb
          go_wp2_with (go_at_call 56;refine (Calls.mono (HNu.out _) ?_);rintro e w2 ⟨A2,cc2,rfl,hr2,hlo2,hb2⟩;have k2:=HK.out.keep hb2;clear c0 c1 c2 c3 c4 y0 y1 y2 y3 y4;obtain ⟨⟨c0,c1,c2,c3,c4⟩,⟨y0,y1,y2,y3,y4⟩⟩:=five_cells k2;have K2:=hide k2;have HB2:=hide (HBe.out.trans (hb2.mono hz));have hown2:=hide (own_fr hown.out (Fr.below hb2 (fun _ => False)) (fun _ _ h => h));have HR2:=hide hr2;clear hb2 k2 hr2)
          obtain ⟨b2,o2,hA2,hb2,x0⟩:=HR2.out 0 (.int .u64 (n0:Nat)) rfl
          subst hA2
          have gx:=fun (j:Nat) (u:Value) (h:([n0,n1,n2,n3].map u64V)[j]? = some u) => show w2.cell? ⟨b2,o2 + j,none⟩ = some u from by
           obtain ⟨b3,o3,hA3,_,hc⟩:=HR2.out j u h
           simp only [Option.some.injEq,Addr.mk.injEq,and_true] at hA3
           obtain ⟨rfl,rfl⟩:=hA3
           exact hc
          have x1:=gx 1 (.int .u64 (n1:Nat)) rfl
          have x2:=gx 2 (.int .u64 (n2:Nat)) rfl
          have x3:=gx 3 (.int .u64 (n3:Nat)) rfl
          rw [Nat.add_zero] at x0
          clear gx
          have hlo3:wr.heap.size ≤ b2:=hlo2 _ rfl
          have hzwr:=HK.out.lt
          have hne:b2 ≠ w.heap.size:=by omega
          have HSx:=hide (show ∀ W:World,(∀ k,k = b2 → W.heap[k]? = w2.heap[k]?) → (W.cell? ⟨b2,o2,none⟩ = some (.int .u64 (n0:Nat)) ∧ W.cell? ⟨b2,o2 + 1,none⟩ = some (.int .u64 (n1:Nat)) ∧ W.cell? ⟨b2,o2 + 2,none⟩ = some (.int .u64 (n2:Nat)) ∧ W.cell? ⟨b2,o2 + 3,none⟩ = some (.int .u64 (n3:Nat))) from fun W h => by
           have hb:=h b2 rfl
           exact ⟨(World.cell?_of_block hb).trans x0,(World.cell?_of_block hb).trans x1,(World.cell?_of_block hb).trans x2,(World.cell?_of_block hb).trans x3⟩)
          obtain ⟨r0,r1,r2,r3⟩:=HSx.out w2.drew (fun k _ => rfl)
          obtain ⟨s0,s1,s2,s3⟩:=HSx.out (((((w2.drew.setCell ⟨w.heap.size,0,none⟩ (.int .u64 (n0:Nat))).setCell ⟨w.heap.size,1,none⟩ (.int .u64 (n1:Nat))).setCell ⟨w.heap.size,2,none⟩ (.int .u32 0)).setCell ⟨w.heap.size,3,none⟩ (.int .u64 (n2:Nat))).setCell ⟨w.heap.size,4,none⟩ (.int .u64 (n3:Nat))) (fun k hk => by
           subst hk
           exact (Below.heap_setCell _ _ _ _ hne).trans ((Below.heap_setCell _ _ _ _ hne).trans ((Below.heap_setCell _ _ _ _ hne).trans ((Below.heap_setCell _ _ _ _ hne).trans (Below.heap_setCell _ _ _ _ hne)))))
          obtain ⟨d0,d1,d2,d3⟩:=HSx.out ((((((w2.setCell ⟨w.heap.size,0,none⟩ (.int .u64 (n0:Nat))).setCell ⟨w.heap.size,1,none⟩ (.int .u64 (n1:Nat))).setCell ⟨w.heap.size,2,none⟩ (.int .u32 0)).setCell ⟨w.heap.size,3,none⟩ (.int .u64 (n2:Nat))).setCell ⟨w.heap.size,4,none⟩ (.int .u64 (n3:Nat))).drew) (fun k hk => by
           subst hk
           exact (Below.heap_setCell _ _ _ _ hne).trans ((Below.heap_setCell _ _ _ _ hne).trans ((Below.heap_setCell _ _ _ _ hne).trans ((Below.heap_setCell _ _ _ _ hne).trans (Below.heap_setCell _ _ _ _ hne)))))
          go_region_held3 (fun w' => (w'.cell? ⟨b2,o2,none⟩ = some (.int .u64 (n0:Nat)) ∧ w'.cell? ⟨b2,o2 + 1,none⟩ = some (.int .u64 (n1:Nat)) ∧ w'.cell? ⟨b2,o2 + 2,none⟩ = some (.int .u64 (n2:Nat)) ∧ w'.cell? ⟨b2,o2 + 3,none⟩ = some (.int .u64 (n3:Nat)))) (first | with_reducible exact ⟨r0,r1,r2,r3⟩ | with_reducible exact ⟨s0,s1,s2,s3⟩ | with_reducible exact ⟨d0,d1,d2,d3⟩) (fail)
          go_wp2_with fail
          obtain ⟨⟨t0,t1,t2,t3,t4⟩,_⟩:=five_cells (show Bk ((((((w2.setCell ⟨w.heap.size,0,none⟩ (.int .u64 (n0:Nat))).setCell ⟨w.heap.size,1,none⟩ (.int .u64 (n1:Nat))).setCell ⟨w.heap.size,2,none⟩ (.int .u32 0)).setCell ⟨w.heap.size,3,none⟩ (.int .u64 (n2:Nat))).setCell ⟨w.heap.size,4,none⟩ (.int .u64 (n3:Nat))).drew) w.heap.size 25 #[(.int .u64 (n0:Nat)),(.int .u64 (n1:Nat)),(.int .u32 0),(.int .u64 (n2:Nat)),(.int .u64 (n3:Nat))] from (((((K2.out.set_ 0 (.int .u64 (n0:Nat))).set_ 1 (.int .u64 (n1:Nat))).set_ 2 (.int .u32 0)).set_ 3 (.int .u64 (n2:Nat))).set_ 4 (.int .u64 (n3:Nat))))
          obtain ⟨Ao,co,hu5⟩:=own_formG hown2.out
          have hnw:u5.ownBlock ≠ some w.heap.size:=fun h => by have:=(hown2.out.lt _ h).1;omega
          have hown5:World.ownsRow ((((((w2.setCell ⟨w.heap.size,0,none⟩ (.int .u64 (n0:Nat))).setCell ⟨w.heap.size,1,none⟩ (.int .u64 (n1:Nat))).setCell ⟨w.heap.size,2,none⟩ (.int .u32 0)).setCell ⟨w.heap.size,3,none⟩ (.int .u64 (n2:Nat))).setCell ⟨w.heap.size,4,none⟩ (.int .u64 (n3:Nat))).drew) (w.heap.size + 1) 53 6 (.slice Ao acc.length co) acc.length (flat6 acc):=by rw [← hu5];exact (own_set (own_set (own_set (own_set (own_set hown2.out (p:=⟨w.heap.size,0,none⟩) hnw _) (p:=⟨w.heap.size,1,none⟩) hnw _) (p:=⟨w.heap.size,2,none⟩) hnw _) (p:=⟨w.heap.size,3,none⟩) hnw _) (p:=⟨w.heap.size,4,none⟩) hnw _)
          refine bodyPost_ret (v:=.tuple #[u5,headV (hd4 [n0,n1,n2,n3]),.int .i64 0]) (by simp [results,Tryz.results23,go_sem,t0,t1,t2,t3,t4,headV,hd4]) rfl ?_
          exact ⟨.inr ⟨Ao,co,acc,[n0,n1,n2,n3],HI.out,rfl,HLb.out,HSix.out,by rw [hu5],own_rdG hown5⟩,(((((HB2.out.setCell (p:=⟨w.heap.size,0,none⟩) (Nat.le_refl _) _).setCell (p:=⟨w.heap.size,1,none⟩) (Nat.le_refl _) _).setCell (p:=⟨w.heap.size,2,none⟩) (Nat.le_refl _) _).setCell (p:=⟨w.heap.size,3,none⟩) (Nat.le_refl _) _).setCell (p:=⟨w.heap.size,4,none⟩) (Nat.le_refl _) _).drew⟩
        · rw [if_neg (fun h => h4 ⟨HL1.out.1 h.1,h.2⟩)] at hI
          by_cases h6:l.length = 6
          · rw [if_pos h6] at hI
            obtain ⟨n0,n1,n2,n3,n4,n5,rfl⟩:=six_of h6
            have e0:=hlb n0 (by simp)
            have e1:=hlb n1 (by simp)
            have e2:=hlb n2 (by simp)
            have e3:=hlb n3 (by simp)
            have e4:=hlb n4 (by simp)
            have e5:=hlb n5 (by simp)
            have wn0:IntKind.i64.wrap (n0:Int) = (n0:Int):=IntWalk.i64_in _ ⟨by omega,by omega⟩
            have wn1:IntKind.i64.wrap (n1:Int) = (n1:Int):=IntWalk.i64_in _ ⟨by omega,by omega⟩
            have wn2:IntKind.i64.wrap (n2:Int) = (n2:Int):=IntWalk.i64_in _ ⟨by omega,by omega⟩
            have wn3:IntKind.i64.wrap (n3:Int) = (n3:Int):=IntWalk.i64_in _ ⟨by omega,by omega⟩
            have wn4:IntKind.i64.wrap (n4:Int) = (n4:Int):=IntWalk.i64_in _ ⟨by omega,by omega⟩
            have wn5:IntKind.i64.wrap (n5:Int) = (n5:Int):=IntWalk.i64_in _ ⟨by omega,by omega⟩
            have HI:=hide hI
            have HNu:=hide nu2
            clear hI h4 h6 nu2 hlb e0 e1 e2 e3 e4 e5 HB1'
            cases b1
            · go_wp2_with (go_at_call 56;refine (Calls.mono (HNu.out _) ?_);rintro e w2 ⟨A2,cc2,rfl,hr2,hlo2,hb2⟩;have k2:=HK.out.keep hb2;clear c0 c1 c2 c3 c4 y0 y1 y2 y3 y4;obtain ⟨⟨c0,c1,c2,c3,c4⟩,⟨y0,y1,y2,y3,y4⟩⟩:=five_cells k2;have K2:=hide k2;have HB2:=hide (HBe.out.trans (hb2.mono hz));have hown2:=hide (own_fr hown.out (Fr.below hb2 (fun _ => False)) (fun _ _ h => h));have HR2:=hide hr2;clear hb2 k2 hr2)
              obtain ⟨b2,o2,hA2,hb2,x0⟩:=HR2.out 0 (.int .u64 (n0:Nat)) rfl
              subst hA2
              have hlo3:wr.heap.size ≤ b2:=hlo2 _ rfl
              have gx:=fun (j:Nat) (u:Value) (h:([n0,n1,n2,n3,n4,n5].map u64V)[j]? = some u) => show w2.cell? ⟨b2,o2 + j,none⟩ = some u from by
               obtain ⟨b3,o3,hA3,_,hc⟩:=HR2.out j u h
               simp only [Option.some.injEq,Addr.mk.injEq,and_true] at hA3
               obtain ⟨rfl,rfl⟩:=hA3
               exact hc
              have x1:=gx 1 (.int .u64 (n1:Nat)) rfl
              have x2:=gx 2 (.int .u64 (n2:Nat)) rfl
              have x3:=gx 3 (.int .u64 (n3:Nat)) rfl
              have x4:=gx 4 (.int .u64 (n4:Nat)) rfl
              have x5:=gx 5 (.int .u64 (n5:Nat)) rfl
              rw [Nat.add_zero] at x0
              have hz2:=HB2.out.size
              have hz2k:=K2.out.lt
              have HSx:=hide (show ∀ W:World,(∀ k,k = b2 → W.heap[k]? = w2.heap[k]?) → (W.cell? ⟨b2,o2,none⟩ = some (.int .u64 (n0:Nat)) ∧ W.cell? ⟨b2,o2 + 1,none⟩ = some (.int .u64 (n1:Nat)) ∧ W.cell? ⟨b2,o2 + 2,none⟩ = some (.int .u64 (n2:Nat)) ∧ W.cell? ⟨b2,o2 + 3,none⟩ = some (.int .u64 (n3:Nat)) ∧ W.cell? ⟨b2,o2 + 4,none⟩ = some (.int .u64 (n4:Nat)) ∧ W.cell? ⟨b2,o2 + 5,none⟩ = some (.int .u64 (n5:Nat))) from fun W h => by
               have hb:=h b2 rfl
               exact ⟨(World.cell?_of_block hb).trans x0,(World.cell?_of_block hb).trans x1,(World.cell?_of_block hb).trans x2,(World.cell?_of_block hb).trans x3,(World.cell?_of_block hb).trans x4,(World.cell?_of_block hb).trans x5⟩)
              obtain ⟨r0,r1,r2,r3,r4,r5⟩:=HSx.out w2.drew (fun k _ => rfl)
              obtain ⟨s0,s1,s2,s3,s4,s5⟩:=HSx.out ((w2.alloc (.cells #[.int .i64 (n0:Nat),.int .i64 (n1:Nat),.int .i64 (n2:Nat),.int .i64 (n3:Nat),.int .i64 (n4:Nat),.int .i64 (n5:Nat)] 53)).drew) (fun k hk => Below.heap_alloc w2 _ k (by rw [hk];exact hb2))
              obtain ⟨q0,q1,q2,q3,q4,q5⟩:=HSx.out (w2.drew.alloc (.cells #[.int .i64 (n0:Nat),.int .i64 (n1:Nat),.int .i64 (n2:Nat),.int .i64 (n3:Nat),.int .i64 (n4:Nat),.int .i64 (n5:Nat)] 53)) (fun k hk => Below.heap_alloc w2 _ k (by rw [hk];exact hb2))
              have HO6:=hide (show ∀ u ∈ [Value.int .i64 (n0:Nat),.int .i64 (n1:Nat),.int .i64 (n2:Nat),.int .i64 (n3:Nat),.int .i64 (n4:Nat),.int .i64 (n5:Nat)],u.oneCell' = true from fun u hu => by simp only [List.mem_cons,List.not_mem_nil,or_false] at hu;rcases hu with rfl | rfl | rfl | rfl | rfl | rfl <;> rfl)
              have hown4:World.ownsRow (w2.drew.alloc (.cells #[.int .i64 (n0:Nat),.int .i64 (n1:Nat),.int .i64 (n2:Nat),.int .i64 (n3:Nat),.int .i64 (n4:Nat),.int .i64 (n5:Nat)] 53)) (w.heap.size + 1) 53 6 _ acc.length (flat6 acc):=hown2.out.alloc _
              have HOw4:=hide hown4
              have HRx:=hide (show Rd (w2.drew.alloc (.cells #[.int .i64 (n0:Nat),.int .i64 (n1:Nat),.int .i64 (n2:Nat),.int .i64 (n3:Nat),.int .i64 (n4:Nat),.int .i64 (n5:Nat)] 53)) (w2.drew.alloc (.cells #[.int .i64 (n0:Nat),.int .i64 (n1:Nat),.int .i64 (n2:Nat),.int .i64 (n3:Nat),.int .i64 (n4:Nat),.int .i64 (n5:Nat)] 53)).heap.size (some ⟨w2.heap.size,0,none⟩) [.int .i64 (n0:Nat),.int .i64 (n1:Nat),.int .i64 (n2:Nat),.int .i64 (n3:Nat),.int .i64 (n4:Nat),.int .i64 (n5:Nat)] from bkRdQ (Bk.new w2.drew 53 #[.int .i64 (n0:Nat),.int .i64 (n1:Nat),.int .i64 (n2:Nat),.int .i64 (n3:Nat),.int .i64 (n4:Nat),.int .i64 (n5:Nat)]))
              have HBe4:=hide (HB2.out.drew.alloc HB2.out.size (.cells #[.int .i64 (n0:Nat),.int .i64 (n1:Nat),.int .i64 (n2:Nat),.int .i64 (n3:Nat),.int .i64 (n4:Nat),.int .i64 (n5:Nat)] 53))
              have HK4:=hide ((show Bk w2.drew w.heap.size _ _ from K2.out).alloc (.cells #[.int .i64 (n0:Nat),.int .i64 (n1:Nat),.int .i64 (n2:Nat),.int .i64 (n3:Nat),.int .i64 (n4:Nat),.int .i64 (n5:Nat)] 53))
              clear gx x0 x1 x2 x3 x4 x5 hown4
              go_region_held3 (fun w' => w'.cell? ⟨b2,o2,none⟩ = some (.int .u64 (n0:Nat)) ∧ w'.cell? ⟨b2,o2 + 1,none⟩ = some (.int .u64 (n1:Nat)) ∧ w'.cell? ⟨b2,o2 + 2,none⟩ = some (.int .u64 (n2:Nat)) ∧ w'.cell? ⟨b2,o2 + 3,none⟩ = some (.int .u64 (n3:Nat)) ∧ w'.cell? ⟨b2,o2 + 4,none⟩ = some (.int .u64 (n4:Nat)) ∧ w'.cell? ⟨b2,o2 + 5,none⟩ = some (.int .u64 (n5:Nat)))
               (first | with_reducible exact ⟨r0,r1,r2,r3,r4,r5⟩ | with_reducible exact ⟨q0,q1,q2,q3,q4,q5⟩ | with_reducible exact ⟨s0,s1,s2,s3,s4,s5⟩ | with_reducible exact ⟨p0,p1,p2,p3,p4,p5⟩)
               (first
               | (refine step_append_rd rfl (.tmp 60) (.tmp 86) 46 rfl (w.heap.size + 1) 53 i0 _ 6 48 Tryz.underlying46 hi hz0 hz1 hz2i rfl (by decide) _ acc.length (flat6 acc) rfl HOw4.out (some ⟨w2.heap.size,0,none⟩) 1 1 [.int .i64 (n0:Nat),.int .i64 (n1:Nat),.int .i64 (n2:Nat),.int .i64 (n3:Nat),.int .i64 (n4:Nat),.int .i64 (n5:Nat)] rfl (fun h => by cases h) rfl HRx.out HO6.out (by unfold maxLen;omega) (by omega) (by first | omega | (simp;all_goals fail) | (simp;omega)) ?_
                  intro v3 w3 hown3 hgr3
                  have hx:=HSx.out w3 (fun k hk => (hgr3.block k (by subst hk;simp;omega) (fun he => by have:=(hown.out.lt _ he.symm).2;omega)).trans (Below.heap_alloc w2 _ k (by rw [hk];exact hb2)))
                  obtain ⟨p0,p1,p2,p3,p4,p5⟩:=hx
                  have HB3:=hide (HBe4.out.grown hgr3 (by first | omega | (simp;all_goals fail) | (simp;omega)) (fun g hg => by have:=(hown2.out.lt g hg).1;omega))
                  have K3:=hide (HK4.out.grown hgr3 (fun he => by have:=(hown2.out.lt _ he.symm).1;omega))
                  have HO3:=hide hown3
                  clear hgr3 hown3))
              go_wp2_with fail
              go_roundw
              case rel => exact ⟨k1,k1,g,acc ++ [[n0,n1,n2,n3,n4,n5]],rfl,rfl,by have:=HK1.out;omega,by omega,by have:=HK1.out;simp;omega,hide (by rw [List.drop_eq_nil_of_le (by rw [List.length_take];omega)];simp),hide ⟨by have:=HInv.out.1;have:=HG.out;have:=HK1.out;omega,HI.out⟩,hide (fun x hx => by rcases List.mem_append.1 hx with hx | hx;exact HSix.out x hx;rw [List.mem_singleton.1 hx];rfl),hide (by rw [flat6_snoc,List.length_append];exact HO3.out),K3,HB3⟩
              case measure => have:=HK1.out;simp [intOf];omega
            · go_wp2_with (go_at_call 56;refine (Calls.mono (HNu.out _) ?_);rintro e w2 ⟨A2,cc2,rfl,hr2,hlo2,hb2⟩;have k2:=HK.out.keep hb2;clear c0 c1 c2 c3 c4 y0 y1 y2 y3 y4;obtain ⟨⟨c0,c1,c2,c3,c4⟩,⟨y0,y1,y2,y3,y4⟩⟩:=five_cells k2;have K2:=hide k2;have HB2:=hide (HBe.out.trans (hb2.mono hz));have hown2:=hide (own_fr hown.out (Fr.below hb2 (fun _ => False)) (fun _ _ h => h));have HR2:=hide hr2;clear hb2 k2 hr2)
              obtain ⟨b2,o2,hA2,hb2,x0⟩:=HR2.out 0 (.int .u64 (n0:Nat)) rfl
              subst hA2
              have hlo3:wr.heap.size ≤ b2:=hlo2 _ rfl
              have gx:=fun (j:Nat) (u:Value) (h:([n0,n1,n2,n3,n4,n5].map u64V)[j]? = some u) => show w2.cell? ⟨b2,o2 + j,none⟩ = some u from by
               obtain ⟨b3,o3,hA3,_,hc⟩:=HR2.out j u h
               simp only [Option.some.injEq,Addr.mk.injEq,and_true] at hA3
               obtain ⟨rfl,rfl⟩:=hA3
               exact hc
              have x1:=gx 1 (.int .u64 (n1:Nat)) rfl
              have x2:=gx 2 (.int .u64 (n2:Nat)) rfl
              have x3:=gx 3 (.int .u64 (n3:Nat)) rfl
              have x4:=gx 4 (.int .u64 (n4:Nat)) rfl
              have x5:=gx 5 (.int .u64 (n5:Nat)) rfl
              rw [Nat.add_zero] at x0
              have hz2:=HB2.out.size
              have hz2k:=K2.out.lt
              have HSx:=hide (show ∀ W:World,(∀ k,k = b2 → W.heap[k]? = w2.heap[k]?) → (W.cell? ⟨b2,o2,none⟩ = some (.int .u64 (n0:Nat)) ∧ W.cell? ⟨b2,o2 + 1,none⟩ = some (.int .u64 (n1:Nat)) ∧ W.cell? ⟨b2,o2 + 2,none⟩ = some (.int .u64 (n2:Nat)) ∧ W.cell? ⟨b2,o2 + 3,none⟩ = some (.int .u64 (n3:Nat)) ∧ W.cell? ⟨b2,o2 + 4,none⟩ = some (.int .u64 (n4:Nat)) ∧ W.cell? ⟨b2,o2 + 5,none⟩ = some (.int .u64 (n5:Nat))) from fun W h => by
               have hb:=h b2 rfl
               exact ⟨(World.cell?_of_block hb).trans x0,(World.cell?_of_block hb).trans x1,(World.cell?_of_block hb).trans x2,(World.cell?_of_block hb).trans x3,(World.cell?_of_block hb).trans x4,(World.cell?_of_block hb).trans x5⟩)
              obtain ⟨r0,r1,r2,r3,r4,r5⟩:=HSx.out w2.drew (fun k _ => rfl)
              obtain ⟨s0,s1,s2,s3,s4,s5⟩:=HSx.out ((w2.alloc (.cells #[.int .i64 (n0:Nat),.int .i64 (n1:Nat),.int .i64 (n2:Nat),.int .i64 (n3:Nat),.int .i64 (n4:Nat),.int .i64 (n5:Nat)] 53)).drew) (fun k hk => Below.heap_alloc w2 _ k (by rw [hk];exact hb2))
              obtain ⟨q0,q1,q2,q3,q4,q5⟩:=HSx.out (w2.drew.alloc (.cells #[.int .i64 (n0:Nat),.int .i64 (n1:Nat),.int .i64 (n2:Nat),.int .i64 (n3:Nat),.int .i64 (n4:Nat),.int .i64 (n5:Nat)] 53)) (fun k hk => Below.heap_alloc w2 _ k (by rw [hk];exact hb2))
              have HO6:=hide (show ∀ u ∈ [Value.int .i64 (n0:Nat),.int .i64 (n1:Nat),.int .i64 (n2:Nat),.int .i64 (n3:Nat),.int .i64 (n4:Nat),.int .i64 (n5:Nat)],u.oneCell' = true from fun u hu => by simp only [List.mem_cons,List.not_mem_nil,or_false] at hu;rcases hu with rfl | rfl | rfl | rfl | rfl | rfl <;> rfl)
              have hown4:World.ownsRow (w2.drew.alloc (.cells #[.int .i64 (n0:Nat),.int .i64 (n1:Nat),.int .i64 (n2:Nat),.int .i64 (n3:Nat),.int .i64 (n4:Nat),.int .i64 (n5:Nat)] 53)) (w.heap.size + 1) 53 6 _ acc.length (flat6 acc):=hown2.out.alloc _
              have HOw4:=hide hown4
              have HRx:=hide (show Rd (w2.drew.alloc (.cells #[.int .i64 (n0:Nat),.int .i64 (n1:Nat),.int .i64 (n2:Nat),.int .i64 (n3:Nat),.int .i64 (n4:Nat),.int .i64 (n5:Nat)] 53)) (w2.drew.alloc (.cells #[.int .i64 (n0:Nat),.int .i64 (n1:Nat),.int .i64 (n2:Nat),.int .i64 (n3:Nat),.int .i64 (n4:Nat),.int .i64 (n5:Nat)] 53)).heap.size (some ⟨w2.heap.size,0,none⟩) [.int .i64 (n0:Nat),.int .i64 (n1:Nat),.int .i64 (n2:Nat),.int .i64 (n3:Nat),.int .i64 (n4:Nat),.int .i64 (n5:Nat)] from bkRdQ (Bk.new w2.drew 53 #[.int .i64 (n0:Nat),.int .i64 (n1:Nat),.int .i64 (n2:Nat),.int .i64 (n3:Nat),.int .i64 (n4:Nat),.int .i64 (n5:Nat)]))
              have HBe4:=hide (HB2.out.drew.alloc HB2.out.size (.cells #[.int .i64 (n0:Nat),.int .i64 (n1:Nat),.int .i64 (n2:Nat),.int .i64 (n3:Nat),.int .i64 (n4:Nat),.int .i64 (n5:Nat)] 53))
              have HK4:=hide ((show Bk w2.drew w.heap.size _ _ from K2.out).alloc (.cells #[.int .i64 (n0:Nat),.int .i64 (n1:Nat),.int .i64 (n2:Nat),.int .i64 (n3:Nat),.int .i64 (n4:Nat),.int .i64 (n5:Nat)] 53))
              clear gx x0 x1 x2 x3 x4 x5 hown4
              go_region_held3 (fun w' => w'.cell? ⟨b2,o2,none⟩ = some (.int .u64 (n0:Nat)) ∧ w'.cell? ⟨b2,o2 + 1,none⟩ = some (.int .u64 (n1:Nat)) ∧ w'.cell? ⟨b2,o2 + 2,none⟩ = some (.int .u64 (n2:Nat)) ∧ w'.cell? ⟨b2,o2 + 3,none⟩ = some (.int .u64 (n3:Nat)) ∧ w'.cell? ⟨b2,o2 + 4,none⟩ = some (.int .u64 (n4:Nat)) ∧ w'.cell? ⟨b2,o2 + 5,none⟩ = some (.int .u64 (n5:Nat)))
               (first | with_reducible exact ⟨r0,r1,r2,r3,r4,r5⟩ | with_reducible exact ⟨q0,q1,q2,q3,q4,q5⟩ | with_reducible exact ⟨s0,s1,s2,s3,s4,s5⟩ | with_reducible exact ⟨p0,p1,p2,p3,p4,p5⟩)
               (first
               | (refine step_append_rd rfl (.tmp 60) (.tmp 86) 46 rfl (w.heap.size + 1) 53 i0 _ 6 48 Tryz.underlying46 hi hz0 hz1 hz2i rfl (by decide) _ acc.length (flat6 acc) rfl HOw4.out (some ⟨w2.heap.size,0,none⟩) 1 1 [.int .i64 (n0:Nat),.int .i64 (n1:Nat),.int .i64 (n2:Nat),.int .i64 (n3:Nat),.int .i64 (n4:Nat),.int .i64 (n5:Nat)] rfl (fun h => by cases h) rfl HRx.out HO6.out (by unfold maxLen;omega) (by omega) (by first | omega | (simp;all_goals fail) | (simp;omega)) ?_
                  intro v3 w3 hown3 hgr3
                  have hx:=HSx.out w3 (fun k hk => (hgr3.block k (by subst hk;simp;omega) (fun he => by have:=(hown.out.lt _ he.symm).2;omega)).trans (Below.heap_alloc w2 _ k (by rw [hk];exact hb2)))
                  obtain ⟨p0,p1,p2,p3,p4,p5⟩:=hx
                  have HB3:=hide (HBe4.out.grown hgr3 (by first | omega | (simp;all_goals fail) | (simp;omega)) (fun g hg => by have:=(hown2.out.lt g hg).1;omega))
                  have K3:=hide (HK4.out.grown hgr3 (fun he => by have:=(hown2.out.lt _ he.symm).1;omega))
                  have HO3:=hide hown3
                  clear hgr3 hown3))
              go_wp2_with fail
              go_roundw
              case rel => exact ⟨k1,k1,g,acc ++ [[n0,n1,n2,n3,n4,n5]],rfl,rfl,by have:=HK1.out;omega,by omega,by have:=HK1.out;simp;omega,hide (by rw [List.drop_eq_nil_of_le (by rw [List.length_take];omega)];simp),hide ⟨by have:=HInv.out.1;have:=HG.out;have:=HK1.out;omega,HI.out⟩,hide (fun x hx => by rcases List.mem_append.1 hx with hx | hx;exact HSix.out x hx;rw [List.mem_singleton.1 hx];rfl),hide (by rw [flat6_snoc,List.length_append];exact HO3.out),K3,HB3⟩
              case measure => have:=HK1.out;simp [intOf];omega
          · rw [if_neg h6] at hI
            have HI:=hide hI
            have HNu:=hide nu2
            have hl6:((l.length:Int) != 6) = true:=by simp;omega
            obtain ⟨b4,hb4⟩:∃ b,((l.length:Int) == 4) = b:=⟨_,rfl⟩
            have hb4':b4 = true → l.length = 4:=fun h => by rw [h] at hb4;simp at hb4;omega
            have hno:b1 = false ∨ b4 = false:=by
             cases b1
             · exact .inl rfl
             · cases b4
               · exact .inr rfl
               · exact absurd ⟨HB1'.out.1 rfl,hb4' rfl⟩ h4
            clear hI h4 h6 nu2 hlb hb4' HB1'
            rcases hno with e | e
            · subst e
              go_wp2_with (go_at_call 56;refine (Calls.mono (HNu.out _) ?_);rintro e w2 ⟨A2,cc2,rfl,hr2,hlo2,hb2⟩;have k2:=HK.out.keep hb2;clear c0 c1 c2 c3 c4 y0 y1 y2 y3 y4;obtain ⟨⟨c0,c1,c2,c3,c4⟩,⟨y0,y1,y2,y3,y4⟩⟩:=five_cells k2;have K2:=hide k2;have HB2:=hide (HBe.out.trans (hb2.mono hz));have hown2:=hide (own_fr hown.out (Fr.below hb2 (fun _ => False)) (fun _ _ h => h));have HR2:=hide hr2;clear hb2 k2 hr2)
              obtain ⟨⟨t0,t1,t2,t3,t4⟩,_⟩:=five_cells (show Bk (((((w2.setCell ⟨w.heap.size,0,none⟩ (.int .u64 0)).setCell ⟨w.heap.size,1,none⟩ (.int .u64 0)).setCell ⟨w.heap.size,2,none⟩ (.int .u32 0)).setCell ⟨w.heap.size,3,none⟩ (.int .u64 0)).setCell ⟨w.heap.size,4,none⟩ (.int .u64 0)) w.heap.size 25 #[.int .u64 0,.int .u64 0,.int .u32 0,.int .u64 0,.int .u64 0] from (((((K2.out.set_ 0 (.int .u64 0)).set_ 1 (.int .u64 0)).set_ 2 (.int .u32 0)).set_ 3 (.int .u64 0)).set_ 4 (.int .u64 0)))
              refine bodyPost_ret (v:=.tuple #[.slice none 0 0,headV ⟨0,0,0,0,0⟩,.int .i64 2]) (by simp [results,Tryz.results23,go_sem,t0,t1,t2,t3,t4,headV]) rfl ?_
              exact ⟨.inl ⟨HI.out,rfl⟩,(((((HB2.out.setCell (p:=⟨w.heap.size,0,none⟩) (Nat.le_refl _) _).setCell (p:=⟨w.heap.size,1,none⟩) (Nat.le_refl _) _).setCell (p:=⟨w.heap.size,2,none⟩) (Nat.le_refl _) _).setCell (p:=⟨w.heap.size,3,none⟩) (Nat.le_refl _) _).setCell (p:=⟨w.heap.size,4,none⟩) (Nat.le_refl _) _)⟩
            · subst e
              cases b1
              · go_wp2_with (go_at_call 56;refine (Calls.mono (HNu.out _) ?_);rintro e w2 ⟨A2,cc2,rfl,hr2,hlo2,hb2⟩;have k2:=HK.out.keep hb2;clear c0 c1 c2 c3 c4 y0 y1 y2 y3 y4;obtain ⟨⟨c0,c1,c2,c3,c4⟩,⟨y0,y1,y2,y3,y4⟩⟩:=five_cells k2;have K2:=hide k2;have HB2:=hide (HBe.out.trans (hb2.mono hz));have hown2:=hide (own_fr hown.out (Fr.below hb2 (fun _ => False)) (fun _ _ h => h));have HR2:=hide hr2;clear hb2 k2 hr2)
                obtain ⟨⟨t0,t1,t2,t3,t4⟩,_⟩:=five_cells (show Bk (((((w2.setCell ⟨w.heap.size,0,none⟩ (.int .u64 0)).setCell ⟨w.heap.size,1,none⟩ (.int .u64 0)).setCell ⟨w.heap.size,2,none⟩ (.int .u32 0)).setCell ⟨w.heap.size,3,none⟩ (.int .u64 0)).setCell ⟨w.heap.size,4,none⟩ (.int .u64 0)) w.heap.size 25 #[.int .u64 0,.int .u64 0,.int .u32 0,.int .u64 0,.int .u64 0] from (((((K2.out.set_ 0 (.int .u64 0)).set_ 1 (.int .u64 0)).set_ 2 (.int .u32 0)).set_ 3 (.int .u64 0)).set_ 4 (.int .u64 0)))
                refine bodyPost_ret (v:=.tuple #[.slice none 0 0,headV ⟨0,0,0,0,0⟩,.int .i64 2]) (by simp [results,Tryz.results23,go_sem,t0,t1,t2,t3,t4,headV]) rfl ?_
                exact ⟨.inl ⟨HI.out,rfl⟩,(((((HB2.out.setCell (p:=⟨w.heap.size,0,none⟩) (Nat.le_refl _) _).setCell (p:=⟨w.heap.size,1,none⟩) (Nat.le_refl _) _).setCell (p:=⟨w.heap.size,2,none⟩) (Nat.le_refl _) _).setCell (p:=⟨w.heap.size,3,none⟩) (Nat.le_refl _) _).setCell (p:=⟨w.heap.size,4,none⟩) (Nat.le_refl _) _)⟩
              · go_wp2_with (go_at_call 56;refine (Calls.mono (HNu.out _) ?_);rintro e w2 ⟨A2,cc2,rfl,hr2,hlo2,hb2⟩;have k2:=HK.out.keep hb2;clear c0 c1 c2 c3 c4 y0 y1 y2 y3 y4;obtain ⟨⟨c0,c1,c2,c3,c4⟩,⟨y0,y1,y2,y3,y4⟩⟩:=five_cells k2;have K2:=hide k2;have HB2:=hide (HBe.out.trans (hb2.mono hz));have hown2:=hide (own_fr hown.out (Fr.below hb2 (fun _ => False)) (fun _ _ h => h));have HR2:=hide hr2;clear hb2 k2 hr2)
                obtain ⟨⟨t0,t1,t2,t3,t4⟩,_⟩:=five_cells (show Bk (((((w2.setCell ⟨w.heap.size,0,none⟩ (.int .u64 0)).setCell ⟨w.heap.size,1,none⟩ (.int .u64 0)).setCell ⟨w.heap.size,2,none⟩ (.int .u32 0)).setCell ⟨w.heap.size,3,none⟩ (.int .u64 0)).setCell ⟨w.heap.size,4,none⟩ (.int .u64 0)) w.heap.size 25 #[.int .u64 0,.int .u64 0,.int .u32 0,.int .u64 0,.int .u64 0] from (((((K2.out.set_ 0 (.int .u64 0)).set_ 1 (.int .u64 0)).set_ 2 (.int .u32 0)).set_ 3 (.int .u64 0)).set_ 4 (.int .u64 0)))
                refine bodyPost_ret (v:=.tuple #[.slice none 0 0,headV ⟨0,0,0,0,0⟩,.int .i64 2]) (by simp [results,Tryz.results23,go_sem,t0,t1,t2,t3,t4,headV]) rfl ?_
                exact ⟨.inl ⟨HI.out,rfl⟩,(((((HB2.out.setCell (p:=⟨w.heap.size,0,none⟩) (Nat.le_refl _) _).setCell (p:=⟨w.heap.size,1,none⟩) (Nat.le_refl _) _).setCell (p:=⟨w.heap.size,2,none⟩) (Nat.le_refl _) _).setCell (p:=⟨w.heap.size,3,none⟩) (Nat.le_refl _) _).setCell (p:=⟨w.heap.size,4,none⟩) (Nat.le_refl _) _)⟩
    · have hcI:((c:Int) != 10) = true:=by simp;omega
      have HNo2:=hide (no_step hf HNo.out hget h10)
      clear hget hc h10 HNo
      go_wp2_with fail
      go_roundw
      case rel => exact ⟨k + 1,f,fu,acc,by go_num,rfl,by omega,by omega,by omega,HNo2,HInv,HSix,hown,HK,HBe⟩
      case measure => simp [intOf];omega
  · have hkk:k = s.size:=by omega
    have hcut:cutN ((strL s).drop f) = none:=by
     have:=HNo.out
     rw [List.take_of_length_le (by rw [strL_length];omega)] at this
     exact cutN_none this
    obtain ⟨g,hg⟩:∃ g,fu = g + 1:=⟨fu - 1,by have:=HInv.out.1;omega⟩
    have hI:=HInv.out.2
    rw [hg,readF,hcut] at hI
    have HI:=hide hI
    clear hI hcut hkk hg
    go_wp2_with fail
    obtain ⟨⟨t0,t1,t2,t3,t4⟩,_⟩:=five_cells (show Bk (((((wr.setCell ⟨w.heap.size,0,none⟩ (.int .u64 0)).setCell ⟨w.heap.size,1,none⟩ (.int .u64 0)).setCell ⟨w.heap.size,2,none⟩ (.int .u32 0)).setCell ⟨w.heap.size,3,none⟩ (.int .u64 0)).setCell ⟨w.heap.size,4,none⟩ (.int .u64 0)) w.heap.size 25 #[.int .u64 0,.int .u64 0,.int .u32 0,.int .u64 0,.int .u64 0] from (((((HK.out.set_ 0 (.int .u64 0)).set_ 1 (.int .u64 0)).set_ 2 (.int .u32 0)).set_ 3 (.int .u64 0)).set_ 4 (.int .u64 0)))
    refine bodyPost_ret (v:=.tuple #[.slice none 0 0,headV ⟨0,0,0,0,0⟩,.int .i64 2]) (by simp [results,Tryz.results23,go_sem,t0,t1,t2,t3,t4,headV]) rfl ?_
    exact ⟨.inl ⟨HI.out,rfl⟩,(((((HBe.out.setCell (p:=⟨w.heap.size,0,none⟩) (Nat.le_refl _) _).setCell (p:=⟨w.heap.size,1,none⟩) (Nat.le_refl _) _).setCell (p:=⟨w.heap.size,2,none⟩) (Nat.le_refl _) _).setCell (p:=⟨w.heap.size,3,none⟩) (Nat.le_refl _) _).setCell (p:=⟨w.heap.size,4,none⟩) (Nat.le_refl _) _)⟩
end Go.Proofs.YtcfnjpokfodmoaaGreatDoor
