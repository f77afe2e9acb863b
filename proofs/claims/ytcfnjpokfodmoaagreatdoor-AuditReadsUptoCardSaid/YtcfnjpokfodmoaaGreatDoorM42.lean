/- Lemmas for the row: AudNum. -/
import Derived.Test.YtcfnjpokfodmoaaGreatDoorM36
import Derived.Test.YtcfnjpokfodmoaaGreatDoorShelf2
import Derived.Shelf.Strings.SlTrimAscii
set_option maxRecDepth 100000
set_option linter.unusedVariables false
namespace Go.Proofs.YtcfnjpokfodmoaaGreatDoor
open Go.RowKit
abbrev tenS:ByteArray:={ data:=#[48,49,50,51,52,53,54,55,56,57] }
theorem ten_dig:∀ b:UInt8,tenS.data.toList.contains b = isDig b.toNat:=by
 intro b
 have h:∀ n:Fin 256,([48,49,50,51,52,53,54,55,56,57]:List UInt8).contains (UInt8.ofNat n.val) = isDig n.val:=by decide +kernel
 have:=h ⟨b.toNat,b.toNat_lt⟩
 rw [show UInt8.ofNat b.toNat = b from by simp] at this
 exact this
theorem drop_all {α:Type} {p:α → Bool} {l:List α}:l.dropWhile p = [] ↔ l.all p = true:=by
 induction l with
 | nil => simp
 | cons a l ih =>
   rw [List.dropWhile_cons]
   cases h:p a with
   | true => simp [h,ih]
   | false => simp [h]
theorem trim_all {l:List UInt8}:Lib.trimS l tenS.data.toList = [] ↔ (l.map UInt8.toNat).all isDig = true:=by
 unfold Lib.trimS Lib.trimLeftS Lib.trimRightS
 have hf:(fun b => tenS.data.toList.contains b) = fun b:UInt8 => isDig b.toNat:=funext ten_dig
 rw [hf,drop_all,List.all_reverse,List.all_map]
 constructor
 · intro h
   rw [List.all_eq_true] at h ⊢
   intro b hb
   by_cases hd:isDig b.toNat = true
   · exact hd
   · exfalso
     have hmem:∀ {l:List UInt8},b ∈ l → b ∈ l.dropWhile (fun b:UInt8 => isDig b.toNat):=by
      intro l
      induction l with
      | nil => intro h;exact h
      | cons a l ih =>
        intro hb
        rw [List.dropWhile_cons]
        split
        · rcases List.mem_cons.1 hb with rfl | hb
          · exact absurd (by assumption) hd
          · exact ih hb
        · exact hb
     exact hd (h b (hmem (List.mem_reverse.2 hb)))
 · intro h
   rw [List.all_eq_true] at h ⊢
   intro b hb
   have:=(List.dropWhile_sublist (fun b:UInt8 => isDig b.toNat) (l:=l.reverse)).subset hb
   exact h b (List.mem_reverse.1 this)
theorem strL_data (s:ByteArray):strL s = s.data.toList.map UInt8.toNat:=by
 apply List.ext_getElem?
 intro i
 rw [List.getElem?_map]
 rcases Nat.lt_or_ge i s.size with g | g
 · rw [strL_get g,← byt_of s g,Array.getElem?_toList,Array.getElem?_eq_getElem (by simpa using g)];rfl
 · rw [List.getElem?_eq_none (by rw [strL_length];exact g),List.getElem?_eq_none (by simpa using g)];rfl
theorem parse_dec:∀ {l:List UInt8} {acc:Nat},(l.map UInt8.toNat).all isDig = true → (l.map UInt8.toNat).foldl (fun n c => 10 * n + (c - 48)) acc ≤ 18446744073709551615 → Lib.parseUintM 18446744073709551615 acc l = .ok ((l.map UInt8.toNat).foldl (fun n c => 10 * n + (c - 48)) acc):=by
 intro l
 induction l with
 | nil => intro acc _ _;rfl
 | cons c l ih =>
   intro acc h hle
   rw [List.map_cons,List.all_cons,Bool.and_eq_true] at h
   have hd:=h.1
   unfold isDig at hd
   simp only [Bool.and_eq_true,decide_eq_true_eq] at hd
   rw [List.map_cons,List.foldl_cons] at hle ⊢
   have hmono:∀ (l:List Nat) (a:Nat),a ≤ l.foldl (fun n c => 10 * n + (c - 48)) a:=by
    intro l
    induction l with
    | nil => intro a;exact Nat.le_refl _
    | cons x l ih => intro a;rw [List.foldl_cons];exact Nat.le_trans (by omega) (ih _)
   have hm:=hmono (l.map UInt8.toNat) (10 * acc + (c.toNat - 48))
   have e:acc * 10 + (c.toNat - 48) = 10 * acc + (c.toNat - 48):=by omega
   rw [Lib.parseUintM,if_pos ⟨hd.1,hd.2⟩]
   rw [if_neg (by omega),if_neg (by omega),e]
   exact ih h.2 hle
theorem parse_word {s:ByteArray} {n:Nat} (h:wordV (strL s) = some n):Lib.parseUintB 64 s.data.toList = .ok n:=by
 unfold wordV at h
 split at h
 · cases h
 · rename_i hc
   simp only [not_or] at hc
   obtain ⟨h1,h2,h3,_⟩:=hc
   have hn:decL (strL s) = n:=Option.some.inj h
   have hall:(strL s).all isDig = true:=by simpa using h3
   have hlt:decL (strL s) < 10 ^ (strL s).length:=decL_lt (fun c hc => by
    have:=List.all_eq_true.1 hall c hc
    unfold isDig at this
    simp at this
    omega)
   have hp:10 ^ (strL s).length ≤ 10 ^ 15:=Nat.pow_le_pow_right (by omega) (by omega)
   have h15:(10:Nat) ^ 15 = 1000000000000000:=by decide
   have hd:decL (strL s) = (s.data.toList.map UInt8.toNat).foldl (fun n c => 10 * n + (c - 48)) 0:=by unfold decL;rw [strL_data]
   unfold Lib.parseUintB
   rw [if_neg (fun e => h1 (by rw [strL_data,e];rfl))]
   have:=parse_dec (l:=s.data.toList) (acc:=0) (by rw [← strL_data];exact hall) (by rw [← hd];omega)
   rw [show 2 ^ 64 - 1 = 18446744073709551615 from by decide,this,← hd,hn]
def NumP (s:List Nat) (w:World) (e:Ending) (w':World):Prop :=
 (match wordV s with | none => e = .returned (.tuple #[.int .u64 0,.bool false]) | some n => e = .returned (.tuple #[.int .u64 n,.bool true])) ∧ Below w.heap.size w w'
theorem conv_below {w w1 w2:World} {s:ByteArray} (h:w2 = w1 ∨ w2 = Lib.bytesWorld w1 5 s) (hw:w.heap.size ≤ w1.heap.size):Below w.heap.size w1 w2:=by
 rcases h with rfl | rfl
 · exact Below.refl _ _
 · exact ⟨rfl,rfl,rfl,by rw [Lib.bytesWorld_size];omega,fun k hk => Lib.bytesWorld_at_old w1 _ s k (by omega)⟩
set_option maxHeartbeats 4000000 in
theorem anumber_any (s:ByteArray) (w:World) (hs:s.size ≤ 1048576):Calls Tryz.prog 96 #[.string s] w (NumP (strL s) w):=by
 have tr:=Any.strings_Trim_laid Tryz.lays160 (by kernel_rfl) s tenS w (by omega) (by decide) (ascii_of_all (by decide))
 have HTr:=hide tr
 clear tr
 by_cases h0:s.size = 0
 · have hse:s = ⟨#[]⟩:=strL_inj (by rw [List.eq_nil_of_length_eq_zero (l:=strL s) (by rw [strL_length];exact h0)];rfl)
   subst hse
   go_enter Tryz.func96,Tryz.ntmps96
   go_wp2_with fail
   go_ret2
   exact ⟨rfl,Below.refl _ _⟩
 · have hE:s.toList.isEmpty = false:=by
    rw [Lib.toList_data]
    cases hd:s.data.toList with
    | nil =>
      have:s.data.toList.length = 0:=by rw [hd];rfl
      rw [Array.length_toList] at this
      exact absurd this h0
    | cons x l => rfl
   by_cases h15:15 < s.size
   · have d1:(15:Int) < (s.size:Int):=by omega
     have hw:wordV (strL s) = none:=wordV_none (.inr (.inl (by rw [strL_length];exact h15)))
     have HW:=hide hw
     clear hw
     go_enter Tryz.func96,Tryz.ntmps96
     go_wp2_with fail
     go_ret2
     exact ⟨(by rw [HW.out];rfl),Below.refl _ _⟩
   · have d1:¬ (15:Int) < (s.size:Int):=by omega
     obtain ⟨T,hT⟩:∃ T:ByteArray,T = ⟨(Lib.trimS s.data.toList tenS.data.toList).toArray⟩:=⟨_,rfl⟩
     rw [← hT] at HTr
     by_cases hall:(strL s).all isDig = true
     · have hTe:T = ⟨#[]⟩:=by
        rw [hT,trim_all.2 (by rw [← strL_data];exact hall)]
       subst hTe
       by_cases h1:1 < s.size
       · have d2:(1:Int) < (s.size:Int):=by omega
         have hs0:0 < s.size:=by omega
         obtain ⟨c,hc⟩:∃ c,c = byt s 0:=⟨_,rfl⟩
         have hcs:(s[0]'hs0).toNat = c:=by rw [hc,byt_of]
         have hhd:(strL s).head? = some c:=by rw [List.head?_eq_getElem?,strL_get hs0,hc]
         by_cases h48:c = 48
         · have d3:((c:Int) == 48) = true:=by simp;omega
           have hw:wordV (strL s) = none:=wordV_none (.inr (.inr (.inr ⟨by rw [strL_length];exact h1,by rw [hhd,h48]⟩)))
           have HW:=hide hw
           clear hw hhd hT hall hc
           go_enter Tryz.func96,Tryz.ntmps96
           go_wp2_with (go_at_call 142;refine (Calls.mono HTr.out ?_);rintro e w1 ⟨rfl,hb1⟩;have HB1:=hide hb1;clear hb1)
           go_ret2
           exact ⟨(by rw [HW.out];rfl),HB1.out⟩
         · have d3:((c:Int) == 48) = false:=by simp;omega
           obtain ⟨n,hw⟩:∃ n,wordV (strL s) = some n:=by
            unfold wordV
            rw [if_neg]
            · exact ⟨_,rfl⟩
            · rintro (e | e | e | ⟨_,e⟩)
              · rw [e] at hhd;cases hhd
              · rw [strL_length] at e;omega
              · rw [hall] at e;cases e
              · rw [hhd] at e;exact h48 (Option.some.inj e)
           have pu:=fun (W:World) => Tryz.strconv_ParseUint_10_at64_ok s (by omega) n (parse_word hw) W
           have HPu:=hide pu
           have HW:=hide hw
           clear hw pu hhd hT hall hc
           go_enter Tryz.func96,Tryz.ntmps96
           go_wp2_with (first
            | (go_at_call 143;refine (Calls.mono (HPu.out w1) ?_);rintro e w2 ⟨rfl,hb2⟩;have HB2:=hide (HB1.out.trans (conv_below hb2 HB1.out.size));clear hb2)
            | (go_at_call 142;refine (Calls.mono HTr.out ?_);rintro e w1 ⟨rfl,hb1⟩;have HB1:=hide hb1;clear hb1))
           go_quiet (fail)
           go_wp2_with fail
           go_ret2
           exact ⟨(by rw [HW.out];rfl),below_drewN HB2.out _⟩
       · have d2:¬ (1:Int) < (s.size:Int):=by omega
         have hs1:s.size = 1:=by omega
         obtain ⟨n,hw⟩:∃ n,wordV (strL s) = some n:=by
          unfold wordV
          rw [if_neg]
          · exact ⟨_,rfl⟩
          · rintro (e | e | e | ⟨e,_⟩)
            · have:=congrArg List.length e;rw [strL_length,List.length_nil] at this;exact h0 this
            · rw [strL_length] at e;omega
            · rw [hall] at e;cases e
            · rw [strL_length] at e;exact h1 e
         have pu:=fun (W:World) => Tryz.strconv_ParseUint_10_at64_ok s (by omega) n (parse_word hw) W
         have HPu:=hide pu
         have HW:=hide hw
         clear hw pu hT hall hs1
         go_enter Tryz.func96,Tryz.ntmps96
         go_wp2_with (first
          | (go_at_call 143;refine (Calls.mono (HPu.out w1) ?_);rintro e w2 ⟨rfl,hb2⟩;have HB2:=hide (HB1.out.trans (conv_below hb2 HB1.out.size));clear hb2)
          | (go_at_call 142;refine (Calls.mono HTr.out ?_);rintro e w1 ⟨rfl,hb1⟩;have HB1:=hide hb1;clear hb1))
         go_quiet (fail)
         go_wp2_with fail
         go_ret2
         exact ⟨(by rw [HW.out];rfl),below_drewN HB2.out _⟩
     · have hTne:T.toList.isEmpty = false:=by
        rw [Lib.toList_data,hT]
        cases hd:Lib.trimS s.data.toList tenS.data.toList with
        | nil => exact absurd (by rw [strL_data];exact trim_all.1 hd) hall
        | cons x l => rfl
       have hw:wordV (strL s) = none:=wordV_none (.inr (.inr (.inl (by simpa using hall))))
       have HW:=hide hw
       clear hw hT hall
       go_enter Tryz.func96,Tryz.ntmps96
       go_wp2_with (go_at_call 142;refine (Calls.mono HTr.out ?_);rintro e w1 ⟨rfl,hb1⟩;have HB1:=hide hb1;clear hb1)
       go_ret2
       exact ⟨(by rw [HW.out];rfl),HB1.out⟩
end Go.Proofs.YtcfnjpokfodmoaaGreatDoor
