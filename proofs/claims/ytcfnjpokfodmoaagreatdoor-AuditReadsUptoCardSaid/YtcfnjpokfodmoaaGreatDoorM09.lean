/- Lemmas for the row: Symbols. -/
import Derived.Test.YtcfnjpokfodmoaaGreatDoorM06
import Derived.Test.YtcfnjpokfodmoaaGreatDoorM07
import Derived.Test.YtcfnjpokfodmoaaGreatDoorM08
import Derived.Test.YtcfnjpokfodmoaaGreatDoorShelf
set_option maxRecDepth 100000
set_option linter.unusedVariables false
namespace Go.Proofs.YtcfnjpokfodmoaaGreatDoor
open Go.RowKit
theorem byteCells_vby {l:List Nat} (hl:∀ x ∈ l,x < 256):Lib.byteCells (l.map UInt8.ofNat) = vby l:=by
 unfold Lib.byteCells vby
 rw [List.map_map]
 apply List.map_congr_left
 intro x hx
 show Value.int .u8 ((UInt8.ofNat x).toNat:Int) = _
 rw [UInt8.toNat_ofNat',Nat.mod_eq_of_lt (hl x hx)]
theorem bString (b:Nat) (l:List Nat) (w:World) (h:Bd w b l) (hl:∀ x ∈ l,x < 256) :
 Calls Tryz.prog 52 #[.pointer (some ⟨b,0,none⟩)] w fun e w' => e = .returned (.string (strOf l)) ∧ Below b w w':=by
 have hb:=h.lt
 obtain ⟨p,v,h1,h2,h3⟩:=h
 have at_:Lib.BuilderAtF 85 5 b b p (Lib.byteCells (l.map UInt8.ofNat)) w:=by
  refine ⟨Nat.le_refl _,v,h1, ?_,fun e => by have:=(h3.lt b e).1;omega⟩
  rw [byteCells_vby hl,vby_length]
  exact World.ownsRowF_of (own_base h3 (fun g hg => by have:=(h3.lt g hg).1;omega))
 refine (Tryz.Builder_String_any_k b b (l.map UInt8.ofNat) w (h2.elim (fun e => .inl (by subst e;exact at_)) (fun e => .inr (by subst e;exact at_))) (by omega)).mono ?_
 rintro e w' ⟨rfl,_,hbe,_⟩
 exact ⟨rfl,hbe⟩
theorem toL_snoc (s:List Nat):∀ (row:List Nat) (c:Nat),toL row (s ++ [c]) = ((toL row s).1 ++ [idxL (toL row s).2 c],liftL (toL row s).2 (idxL (toL row s).2 c)):=by
 induction s with
 | nil => intro row c;rfl
 | cons x s ih =>
   intro row c
   rw [List.cons_append,toL,ih,toL];rfl
theorem toL_ok {row:List Nat} (h:RowOK row) {s:List Nat} (hs:∀ c ∈ s,c < 256):RowOK (toL row s).2 ∧ (∀ x ∈ (toL row s).1,x < 256) ∧ (toL row s).1.length = s.length:=by
 induction s generalizing row with
 | nil => exact ⟨h,fun x hx => by simp [toL] at hx,rfl⟩
 | cons c s ih =>
   have hc:=hs c (by simp)
   have hi:=idxL_lt h hc
   obtain ⟨h1,h2,h3⟩:=ih (h.lift hi) (fun x hx => hs x (List.mem_cons_of_mem _ hx))
   refine ⟨h1,fun x hx => ?_,by rw [toL];simp [h3]⟩
   rw [toL] at hx
   rcases List.mem_cons.1 hx with rfl | hx
   · exact hi
   · exact h2 x hx
theorem Fr.thenBelow {S:Nat → Prop} {a w w':World} {B:Nat} (h:Fr S a w) (hb:Below B w w') (hB:a.heap.size ≤ B):Fr S a w' :=
 ⟨hb.os.trans h.os,hb.tape.trans h.tape,hb.output.trans h.output,Nat.le_trans h.size hb.size,fun k hk hS => (hb.block k (by omega)).trans (h.block k hk hS)⟩
set_option maxHeartbeats 1000000 in
theorem symbols_any (p:Nat) (t:TypeId) (row:List Nat) (s:ByteArray) (w:World) (hr:RowOK row) (h:Bk w p t (vby row).toArray) (hs:s.size ≤ 65536) :
 Calls Tryz.prog 101 #[.pointer (some ⟨p,0,none⟩),.string s] w fun e w' => ∃ A c,e = .returned (.slice A (encZ 0 (toL row (strL s)).1).length c) ∧ Rd w' w'.heap.size A ((encZ 0 (toL row (strL s)).1).map u64V) ∧ (∀ a,A = some a → w.heap.size ≤ a.block) ∧ Bk w' p t (vby (toL row (strL s)).2).toArray ∧ Fr (fun g => g = p) w w':=by
 have hplt:=h.lt
 have HB0:=hide h
 have HRk:=hide hr
 clear h hr
 go_enter Tryz.func101,Tryz.ntmps101
 go_wp2_with fail
 go_loopw [16] (fun i wr => ∃ k:Nat,k ≤ s.size ∧ i = .int .i64 k ∧ Hid (Bd wr w.heap.size (toL row ((strL s).take k)).1) ∧ Hid (Bk wr p t (vby (toL row ((strL s).take k)).2).toArray) ∧ Hid (Fr (fun g => g = p) w wr)) (fun i _ => s.size - (intOf i).toNat)
 case atStart => exact ⟨0,by omega,rfl,hide (Bd.new w),hide (HB0.out.alloc _),hide ((Fr.refl _ w).alloc _)⟩
 case round =>
  clear HB0
  obtain ⟨k,hk,rfl,hbd,hbk,hfr⟩:=hrel
  have hbl:∀ x ∈ (strL s).take k,x < 256:=fun x hx => strL_lt s x (List.mem_of_mem_take hx)
  have hok:=toL_ok HRk.out hbl
  by_cases hlt:k < s.size
  · obtain ⟨c,hc⟩:∃ c,c = byt s k:=⟨_,rfl⟩
    have hc256:c < 256:=by rw [hc];exact byt_lt s k
    have hcs:(s[k]'hlt).toNat = c:=by rw [hc,byt_of]
    have hst:(strL s).take (k + 1) = (strL s).take k ++ [c]:=by rw [hc];exact strL_take hlt
    have hsn:=toL_snoc ((strL s).take k) row c
    rw [← hst] at hsn
    have tt:=to_any p c t (toL row ((strL s).take k)).2 wr hok.1 hc256 hbk.out
    have hlen:(toL row ((strL s).take k)).1.length ≤ 65536:=by rw [hok.2.2,List.length_take];omega
    obtain ⟨R,hR⟩:∃ R,R = (toL row ((strL s).take k)).2:=⟨_,rfl⟩
    obtain ⟨L,hL⟩:∃ L,L = (toL row ((strL s).take k)).1:=⟨_,rfl⟩
    rw [← hR,← hL] at hsn
    rw [← hR] at tt
    rw [← hL] at hlen hbd
    obtain ⟨q,hq⟩:∃ q,q = idxL R c:=⟨_,rfl⟩
    rw [← hq] at hsn tt
    have HT:=hide tt
    have HSn:=hide hsn
    clear hc hst hsn tt hok hbl hR hL hq hbk
    go_wp2_with (first
     | (go_at_call 145;refine (Calls.mono HT.out ?_);rintro e w1 ⟨rfl,hk1,hf1⟩;have HK1:=hide hk1;have HF1:=hide hf1;have HD1:=hide (hbd.out.fr hf1 (fun g hg => by subst hg;exact hplt));clear hk1 hf1)
     | (go_at_call 99;refine (Calls.mono (bwByte w.heap.size q L w1 HD1.out (by omega)) ?_);rintro e w2 ⟨rfl,hd2,hb2⟩;have HD2:=hide hd2;have HB2:=hide hb2;clear hd2 hb2))
    go_roundw
    case rel =>
     refine ⟨k + 1,by omega,by go_num,hide ?_,hide ?_,hide ?_⟩
     · rw [HSn.out];exact HD2.out
     · rw [HSn.out];exact HK1.out.below HB2.out hplt
     · exact (hfr.out.trans HF1.out (fun g hg => .inl hg)).thenBelow HB2.out (Nat.le_refl _)
    case measure => simp [intOf];omega
  · obtain rfl:k = s.size:=by omega
    have htk:(strL s).take s.size = strL s:=List.take_of_length_le (by rw [strL_length];exact Nat.le_refl _)
    rw [htk] at hbd hbk hok
    clear htk hbl
    obtain ⟨L,hL⟩:∃ L,L = (toL row (strL s)).1:=⟨_,rfl⟩
    have bs:=fun hd => bString w.heap.size (toL row (strL s)).1 wr hd hok.2.1
    have hsz:(strOf L).size ≤ 65536:=by rw [strOf_size,hL,hok.2.2,strL_length];exact hs
    have hstr:strL (strOf L) = L:=strL_of (by rw [hL];exact hok.2.1)
    rw [← hL] at hbd bs
    have HBs:=hide (bs hbd.out)
    have HStr:=hide hstr
    have HLe:=hide hL
    clear bs hstr hok hL
    go_wp2_with (first
     | (go_at_call 52;refine (Calls.mono HBs.out ?_);rintro e w1 ⟨rfl,hb1⟩;have HB1:=hide hb1;clear hb1)
     | (go_at_call 88;refine (Calls.mono (encode_any (strOf L) w1 hsz) ?_);rintro e w2 ⟨A2,c2,rfl,hr2,ha2,hb2⟩;rw [HStr.out] at hr2 ⊢;have HR2:=hide hr2;have HA2:=hide ha2;have HB2:=hide hb2;clear hr2 ha2 hb2))
    go_ret
    have hz1:=HB1.out.size
    have hz0:=hfr.out.size
    rw [← HLe.out]
    exact ⟨A2,c2,rfl,HR2.out,fun a ha => by have:=HA2.out a ha;omega,(hbk.out.below HB1.out hplt).below HB2.out (by omega),(hfr.out.thenBelow HB1.out (Nat.le_refl _)).thenBelow HB2.out (by omega)⟩
end Go.Proofs.YtcfnjpokfodmoaaGreatDoor
