/- Lemmas for the row: AudLine. -/
import Derived.Test.YtcfnjpokfodmoaaGreatDoorM32
import Derived.Test.YtcfnjpokfodmoaaGreatDoorM39
set_option maxRecDepth 100000
set_option linter.unusedVariables false
namespace Go.Proofs.YtcfnjpokfodmoaaGreatDoor
open Go.RowKit
theorem joinL_snoc (l:List Nat) (n:Nat):joinL (l ++ [n]) = (if l = [] then [] else joinL l ++ [32]) ++ digL n:=by
 induction l with
 | nil => rfl
 | cons a l ih =>
   rw [if_neg (by simp)]
   cases l with
   | nil => simp [joinL]
   | cons c l =>
     rw [if_neg (by simp)] at ih
     show digL a ++ 32 :: joinL ((c :: l) ++ [n]) = _
     rw [ih]
     simp [joinL]
theorem joinL_len {l:List Nat} (h:∀ n ∈ l,n < 18446744073709551616):(joinL l).length ≤ 21 * l.length:=by
 have hd:∀ n,n < 18446744073709551616 → (digL n).length ≤ 20:=fun n hn => digL_len 19 (n:=n) (by omega)
 induction l with
 | nil => simp [joinL]
 | cons a l ih =>
   have h1:=hd a (h a (by simp))
   cases l with
   | nil => simp [joinL];omega
   | cons c l =>
     have h2:=ih (fun n hn => h n (List.mem_cons_of_mem _ hn))
     rw [joinL,List.length_append,List.length_cons]
     simp only [List.length_cons] at h2 ⊢
     omega
theorem Pow10.belowB {B:Nat} {w w':World} (h:Pow10 w) (hb:Below B w w') (hB:4 < B):Pow10 w':=by
 have hg:Tryz.prog.globalNamed "internal/strconv.uint64pow10" = some 4:=by kernel_rfl
 unfold Pow10 Lib.TabIs World.var? at *
 simp only [hg,Option.bind_some] at h ⊢
 rw [hb.block _ hB]
 exact h
set_option maxHeartbeats 2000000 in
theorem line_any (b g c:Nat) (acc xs:List Nat) (w:World) (hb:Bd w b acc) (hk:Bk w g 22 (xs.map u64V).toArray) (hgb:g ≠ b) (hT:Pow10 w) (hG:4 < b) (hx:∀ n ∈ xs,n < 18446744073709551616) (hxl:xs.length ≤ 1000) (hl:acc.length ≤ 100000000) :
 Calls Tryz.prog 58 #[.pointer (some ⟨b,0,none⟩),.slice (some ⟨g,0,none⟩) xs.length c] w fun e w' => e = .returned (.tuple #[]) ∧ Bd w' b (acc ++ lineL xs) ∧ Below b w w' ∧ Fr (SU b w) w w':=by
 have HB:=hide hb
 have HK:=hide hk
 have HT:=hide hT
 have HX:=hide hx
 clear hb hk hT hx
 go_enter Tryz.func58,Tryz.ntmps58
 go_wp2_with fail
 go_loopw [8] (fun i wr => ∃ k:Nat,i = .int .i64 k ∧ k ≤ xs.length ∧ Hid (Bd wr b (acc ++ joinL (xs.take k))) ∧ Hid (Below b w wr) ∧ Hid (Fr (SU b w) w wr)) (fun i _ => xs.length - (intOf i).toNat)
 case atStart => exact ⟨0,rfl,by omega,hide (by rw [List.take_zero];show Bd w b (acc ++ []);rw [List.append_nil];exact HB.out),hide (Below.refl _ _),hide (Fr.refl _ _)⟩
 case round =>
  clear HB
  obtain ⟨k,rfl,hk,hbd,hbe,hfr⟩:=hrel
  have hlen:(acc ++ joinL (xs.take k)).length ≤ 100021000:=by
   have:=joinL_len (l:=xs.take k) (fun n hn => HX.out n (List.mem_of_mem_take hn))
   rw [List.length_take] at this
   rw [List.length_append];omega
  by_cases hlt:k < xs.length
  · obtain ⟨n,hn⟩:∃ n,xs[k]? = some n:=⟨xs[k],by simp [hlt]⟩
    have hn64:=HX.out n (List.mem_of_getElem? hn)
    have hk2:=HK.out.fru hfr.out hgb (by decide)
    have hcell:wr.cell? ⟨g,k,none⟩ = some (.int .u64 (n:Nat)):=by rw [hk2.cell];simp [hn,u64V]
    have htk:xs.take (k + 1) = xs.take k ++ [n]:=by rw [List.take_add_one,hn];rfl
    have hd20:(digL n).length ≤ 20:=digL_len 19 (n:=n) (by omega)
    have hds:(strOf (digL n)).size = (digL n).length:=strOf_size _
    have hdL:strL (strOf (digL n)) = digL n:=strL_of (fun c hc => by have:=digL_dig n (Nat.le_refl n) c hc;omega)
    have hTk:Hid (∀ W,Below b w W → Pow10 W):=hide (fun W hW => HT.out.belowB hW hG)
    have hnk:xs.take k = [] ↔ k = 0:=by
     rw [List.take_eq_nil_iff]
     exact ⟨fun h => by rcases h with h | h;exact h;subst h;simp at hlt,.inl⟩
    have hj:=joinL_snoc (xs.take k) n
    rw [← htk] at hj
    obtain ⟨P,hP⟩:∃ P,P = joinL (xs.take k):=⟨_,rfl⟩
    rw [← hP] at hj hlen hbd
    by_cases h0:k = 0
    · rw [if_pos (hnk.2 h0),List.nil_append] at hj
      have d1:¬ (0:Int) < (k:Int):=by omega
      have hP0:P = []:=by rw [hP,hnk.2 h0];rfl
      subst hP0
      rw [List.append_nil] at hbd hlen
      have ws:=fun (W:World) (h:Bd W b acc) => bwStringF b acc (strOf (digL n)) W h (by omega)
      rw [hdL] at ws
      have HWs:=hide ws
      have HJ:=hide hj
      clear hj ws hP htk hn hdL hds hnk hk2 h0
      go_wp2_with (first
       | (go_at_call 100;refine (Calls.mono (fmtU_any n hn64 wr (hTk.out wr hbe.out)) ?_);rintro e w1 ⟨rfl,hb1⟩;have hbd1:=hide (hbd.out.below hb1);have hbe1:=hide (hbe.out.trans (hb1.mono (Nat.le_of_lt hbd.out.lt)));have hfr1:=hide (FrU.more hfr.out (Fr.below hb1 (SU b wr)));clear hb1)
       | (go_at_call 51;refine (Calls.mono (HWs.out w1 hbd1.out) ?_);rintro e w2 ⟨⟨z,rfl⟩,hbd2,hbe2,hfr2⟩;have HBd2:=hide hbd2;have HBe2:=hide (hbe1.out.trans hbe2);have HFr2:=hide (FrU.more hfr1.out hfr2);clear hbd2 hbe2 hfr2))
      go_roundw
      case rel => exact ⟨k + 1,by go_num,by omega,hide (by rw [HJ.out];exact HBd2.out),HBe2,HFr2⟩
      case measure => simp [intOf];omega
    · rw [if_neg (fun h => h0 (hnk.1 h))] at hj
      have d1:(0:Int) < (k:Int):=by omega
      have wb:=fun (W:World) (h:Bd W b (acc ++ P)) => bwByteF b 32 (acc ++ P) W h (by omega)
      have ws:=fun (W:World) (h:Bd W b (acc ++ P ++ [32])) => bwStringF b (acc ++ P ++ [32]) (strOf (digL n)) W h (by rw [List.length_append];simp only [List.length_cons,List.length_nil];omega)
      rw [hdL] at ws
      have HWb:=hide wb
      have HWs:=hide ws
      have HJ:=hide hj
      clear hj wb ws hP htk hn hdL hds hnk hk2 h0
      have hc2:Hid (∀ W,Fr (SU b w) w W → W.cell? ⟨g,k,none⟩ = some (.int .u64 (n:Nat))):=hide (fun W hW => by
       have hh:=hcell
       rw [(HK.out.fru hfr.out hgb (by decide)).cell] at hh
       rw [(HK.out.fru hW hgb (by decide)).cell];exact hh)
      go_wp2_with (first
       | (go_at_call 99;refine (Calls.mono (HWb.out wr hbd.out) ?_);rintro e w1 ⟨rfl,hbd1,hbe1,hfr1⟩;have HBd1:=hide hbd1;have HBe1:=hide (hbe.out.trans hbe1);have HFr1:=hide (FrU.more hfr.out hfr1);clear hbd1 hbe1 hfr1)
       | (go_at_call 100;refine (Calls.mono (fmtU_any n hn64 w1 (hTk.out w1 HBe1.out)) ?_);rintro e w2 ⟨rfl,hb2⟩;have hbd2:=hide (HBd1.out.below hb2);have hbe2:=hide (HBe1.out.trans (hb2.mono (Nat.le_of_lt HBd1.out.lt)));have hfr2:=hide (FrU.more HFr1.out (Fr.below hb2 (SU b w1)));clear hb2)
       | (go_at_call 51;refine (Calls.mono (HWs.out w2 hbd2.out) ?_);rintro e w3 ⟨⟨z,rfl⟩,hbd3,hbe3,hfr3⟩;have HBd2:=hide hbd3;have HBe2:=hide (hbe2.out.trans hbe3);have HFr2:=hide (FrU.more hfr2.out hfr3);clear hbd3 hbe3 hfr3))
      go_roundw
      case rel => exact ⟨k + 1,by go_num,by omega,hide (by rw [HJ.out,← List.append_assoc,← List.append_assoc];exact HBd2.out),HBe2,HFr2⟩
      case measure => simp [intOf];omega
  · have hke:k = xs.length:=by omega
    subst hke
    rw [List.take_length] at hbd hlen
    have ws:=bwStringF b (acc ++ joinL xs) ⟨#[10]⟩ wr hbd.out (by show _ + 1 ≤ _;omega)
    rw [show strL ⟨#[10]⟩ = [10] from by decide +kernel] at ws
    have HWs:=hide ws
    clear ws
    go_wp2_with (go_at_call 51;refine (Calls.mono HWs.out ?_);rintro e w1 ⟨⟨z,rfl⟩,hbd1,hbe1,hfr1⟩;have HBd1:=hide hbd1;have HBe1:=hide (hbe.out.trans hbe1);have HFr1:=hide (FrU.more hfr.out hfr1);clear hbd1 hbe1 hfr1)
    go_end0
    exact ⟨rfl,by unfold lineL;rw [← List.append_assoc];exact HBd1.out,HBe1.out,HFr1.out⟩
end Go.Proofs.YtcfnjpokfodmoaaGreatDoor
