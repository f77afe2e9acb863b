/- Lemmas for the row: DocEndsW. -/
import Derived.Test.YtcfnjpokfodmoaaGreatDoorM03
import Derived.Test.YtcfnjpokfodmoaaGreatDoorM14
import Derived.Test.YtcfnjpokfodmoaaGreatDoorM41
import Derived.Deep.RegionWith
set_option maxRecDepth 100000
set_option linter.unusedVariables false
namespace Go.Proofs.YtcfnjpokfodmoaaGreatDoor
open Go.RowKit
theorem Rd.dropAt {w:World} {B b o:Nat} {xs:List Value} (h:Rd w B (some ⟨b,o,none⟩) xs) (k:Nat):Rd w B (some ⟨b,o + k,none⟩) (xs.drop k):=fun i u hu => by
 rw [List.getElem?_drop] at hu
 obtain ⟨b',o',e',hb,hc⟩:=h (k + i) u hu
 simp only [Option.some.injEq,Addr.mk.injEq,and_true] at e'
 obtain ⟨rfl,rfl⟩:=e'
 exact ⟨b,o + k,rfl,hb,by rw [Nat.add_assoc];exact hc⟩
theorem Rd.takeN {w:World} {B:Nat} {A:Option Addr} {xs:List Value} (h:Rd w B A xs) (k:Nat):Rd w B A (xs.take k):=fun i u hu => by
 refine h i u ?_
 have:=(List.getElem?_eq_some_iff.1 hu).1
 rw [List.length_take] at this
 rw [List.getElem?_take_of_lt (by omega)] at hu
 exact hu
theorem own_kind {w:World} {base e size n m c:Nat} {A:Option Addr} {xs:List Value} (h:w.ownsRow base e size (.slice A m c) n xs):(A = none ∧ c = 0) ∨ ∃ b o,A = some ⟨b,o,none⟩:=by
 rcases h.2 with ⟨hv,_⟩ | ⟨g,cap,cur,hv,_⟩
 · simp only [Value.slice.injEq] at hv
   exact .inl ⟨hv.1,hv.2.2⟩
 · simp only [Value.slice.injEq] at hv
   exact .inr ⟨g,0,hv.1⟩
set_option maxHeartbeats 1000000 in
theorem refEnds_big (A:Option Addr) (n c:Nat) (w:World) (h:4096 < n):Calls Tryz.prog 64 #[.slice A n c] w fun e w' => e = .returned (.tuple #[.slice none 0 0,.int .i64 1]) ∧ w' = w:=by
 have d0:decide ((4096:Int) < (n:Int)) = true:=decide_eq_true (by omega)
 clear h
 go_enter Tryz.func64,Tryz.ntmps64
 go_wp2_with fail
 go_ret2
 exact ⟨rfl,rfl⟩
set_option maxHeartbeats 4000000 in
theorem refEnds_any (A:Option Addr) (s:List Nat) (c:Nat) (w:World) (h:Rd w w.heap.size A (s.map u64V)) (hl:s.length ≤ 4096) (hc:s.length ≤ c) :
 Calls Tryz.prog 64 #[.slice A s.length c] w fun e w' => ∃ A' c' es,e = .returned (.tuple #[.slice A' s.length c',.int .i64 0]) ∧ IsEnds s es ∧ Rd w' w'.heap.size A' (natsV es) ∧ Below w.heap.size w w':=by
 obtain ⟨i0,hi,hz0,hz1,hz2⟩:=info_parts info_int
 have d0:decide ((4096:Int) < (s.length:Int)) = false:=decide_eq_false (by omega)
 have H:=hide h
 clear h
 go_enter Tryz.func64,Tryz.ntmps64
 go_wp2_with fail
 go_loopw [4,12] (fun v vi wr => ∃ (k:Nat) (B:Option Addr) (cB:Nat) (es:List Nat),k ≤ s.length ∧ vi = .int .i64 k ∧ v = .slice B k cB ∧ Hid (EndsTo s k es) ∧ Hid (Rd wr wr.heap.size B (natsV es)) ∧ k ≤ cB ∧ ((B = none ∧ cB = 0) ∨ ∃ b o,B = some ⟨b,o,none⟩) ∧ Hid (Below w.heap.size w wr)) (fun _ i _ => s.length - (intOf i).toNat)
 case atStart => exact ⟨0,none,0,[],by omega,rfl,rfl,hide (EndsTo.zero s),hide Rd.nil_,by omega,.inl ⟨rfl,rfl⟩,hide (Below.refl _ _)⟩
 case round =>
  obtain ⟨k,B,cB,es,hk,rfl,rfl,HE,HB,hkc,hB,HBe⟩:=hrel
  have hz:=HBe.out.size
  by_cases hlt:k < s.length
  · obtain ⟨b,o,hA,hbb,hc0⟩:=H.out k (u64V (s.getD k 0)) (by rw [List.getElem?_map,List.getD_eq_getElem?_getD,List.getElem?_eq_getElem hlt];rfl)
    subst hA
    clear hc0
    have less:∀ (W:World) (j c1 c2:Nat),j < s.length → Below w.heap.size w W → Calls Tryz.prog 105 #[.slice (some ⟨b,o + k,none⟩) (s.length - k) c1,.slice (some ⟨b,o + j,none⟩) (s.length - j) c2] W fun e w' => e = .returned (.bool (sufLt s k j)) ∧ ∃ n,w' = W.drewN n:=fun W j c1 c2 hj hW => by
     have e:∀ i,(s.map u64V).drop i = (((s.drop i).map Int.ofNat).map (Value.int .u64)):=fun i => by rw [← List.map_drop,List.map_map];rfl
     have h1:=((H.out.dropAt k).below hW).more hW.size
     have h2:=((H.out.dropAt j).below hW).more hW.size
     rw [e] at h1 h2
     have:=less_any (some ⟨b,o + k,none⟩) (some ⟨b,o + j,none⟩) ((s.drop k).map Int.ofNat) ((s.drop j).map Int.ofNat) c1 c2 W h1 h2 (by simp;omega) (by simp;omega)
     rw [lessL_lex,List.length_map,List.length_map,List.length_drop,List.length_drop] at this
     exact this
    have HLess:=hide less
    clear less
    go_wp2_with fail
    go_loopw [6] (fun va wr => ∃ (a:Nat),a ≤ k ∧ va = .int .i64 a ∧ Hid (∀ j y,a ≤ j → es[j]? = some y → sufLt s k y = true) ∧ Hid (Rd wr wr.heap.size B (natsV es)) ∧ Hid (Below w.heap.size w wr)) (fun va _ => (intOf va).toNat)
    case atStart => exact ⟨k,Nat.le_refl _,rfl,hide (fun j y hj hy => by have:=(List.getElem?_eq_some_iff.1 hy).1;have:=HE.out.len;omega),HB,HBe⟩
    case round =>
     clear HB HBe hz
     obtain ⟨a,hak,rfl,HG,HB,HBe⟩:=hrel
     have hz:=HBe.out.size
     by_cases ha0:a = 0
     · rcases hB with ⟨rfl,rfl⟩ | ⟨b2,o2,rfl⟩
       · subst ha0
         obtain rfl:k = 0:=by omega
         go_wp2_with fail
         go_quiet (fail)
         go_wp2_with fail
         obtain ⟨W,hW⟩:∃ W,W = wr.drewN nq:=⟨_,rfl⟩
         have HBW:Hid (Rd W W.heap.size none (natsV es)):=hide (by rw [hW];exact HB.out.drewN _)
         have HBeW:Hid (Below w.heap.size w W):=hide (by rw [hW];exact below_drewN HBe.out _)
         rw [← hW]
         clear hW HB HBe hz
         have hz:=HBeW.out.size
         have own0:∀ (W1:World) (g:Nat),Bk W1 g 3 #[] → W.heap.size ≤ g → W1.ownsRow W.heap.size 3 1 (.slice (some ⟨g,0,none⟩) 0 0) 0 []:=fun W1 g hb hg => ⟨rfl,.inr ⟨g,0,#[],rfl,hg,hb,Nat.le_refl _,Nat.zero_le _,rfl,rfl⟩⟩
         have HOwn:=hide own0
         have hel:=HE.out.len
         have HFin:=hide (HE.out.put (k:=0) hlt (by omega) HG.out (fun y h0 => by omega))
         have rd1:∀ W1,Below W.heap.size W W1 → Rd W1 W1.heap.size none ((natsV es).take 0):=fun W1 hW1 => by rw [List.take_zero];exact Rd.nil_
         have hes:es = []:=List.eq_nil_of_length_eq_zero (by omega)
         have rd3:∀ W1,Below W.heap.size W W1 → Rd W1 W1.heap.size none ((natsV es).drop 0):=fun W1 hW1 => by rw [hes];exact Rd.nil_
         have hn1:(none:Option Addr) = none → 0 = 0:=fun _ => rfl
         have hn3:(none:Option Addr) = none → 0 - 0 = 0:=fun _ => rfl
         have HRd1:=hide rd1
         have HRd3:=hide rd3
         have HN1:=hide hn1
         have HN3:=hide hn3
         have HL1:=hide (show ((natsV es).take 0).length = 0 * 1 by unfold natsV;rw [List.length_take,List.length_map];omega)
         have HL3:=hide (show ((natsV es).drop 0).length = (0 - 0) * 1 by unfold natsV;rw [List.length_drop,List.length_map];omega)
         have HO1:=hide (show ∀ u ∈ (natsV es).take 0,u.oneCell' = true from fun u hu => by obtain ⟨x,_,rfl⟩:=List.mem_map.1 (List.mem_of_mem_take hu);rfl)
         have HO3:=hide (show ∀ u ∈ (natsV es).drop 0,u.oneCell' = true from fun u hu => by obtain ⟨x,_,rfl⟩:=List.mem_map.1 (List.mem_of_mem_drop hu);rfl)
         have HOx:=hide (show ∀ u ∈ [Value.int .i64 0],u.oneCell' = true from fun u hu => by rw [List.mem_singleton.1 hu];rfl)
         have hak2:0 ≤ 0:=by omega
         clear own0 rd1 rd3 hn1 hn3 hel hes
         go_region_law (
          first
          | (refine step_append_rd rfl (.tmp 34) (.tmp 37) 74 rfl W.heap.size 3 i0 (.int .i64 0) 1 8 Tryz.underlying74 hi hz0 hz1 hz2 rfl (by decide) _ 0 [] rfl (HOwn.out _ _ (by repeat (first | (with_reducible refine Bk.newAt ?_;first | with_reducible rfl | (simp;all_goals fail)) | with_reducible refine Bk.drew ?_ | with_reducible refine Bk.alloc ?_ _)) (by first | omega | (simp;all_goals fail) | (simp;omega))) none 0 0 ((natsV es).take 0) rfl HN1.out HL1.out (HRd1.out _ (by repeat (first | with_reducible exact Below.refl _ W | with_reducible refine Below.drew ?_ | with_reducible refine Below.alloc ?_ (by first | omega | (simp;all_goals fail) | (simp;omega)) _))) HO1.out (by unfold maxLen;omega) (by omega) (by first | omega | (simp;all_goals fail) | (simp;omega)) ?_
             intro v1 w1 hown1 hgr1
             replace hgr1:World.grownBy _ w1 (some _):=hgr1
             rw [Nat.zero_add,List.nil_append] at hown1
             have hbe1:Below W.heap.size W w1:=Below.grown (by repeat (first | with_reducible exact Below.refl _ W | with_reducible refine Below.drew ?_ | with_reducible refine Below.alloc ?_ (by first | omega | (simp;all_goals fail) | (simp;omega)) _)) hgr1 (by first | omega | (simp;all_goals fail) | (simp;omega)) (fun g hg => by have:=Option.some.inj hg;first | omega | (simp at this;all_goals fail) | (simp at this;omega))
             have hz1':=hbe1.size
             first
             | (have hx1:Bk w1 W.heap.size 3 #[.int .i64 0]:=Bk.grown (Bk.drew (Bk.alloc (Bk.new W 3 #[.int .i64 0]) (.cells #[] 3))) hgr1 (fun he => Nat.succ_ne_self _ (Option.some.inj he).symm))
             | (have hx1:Bk w1 (W.heap.size + 1) 3 #[.int .i64 0]:=Bk.grown (Bk.drew (Bk.new1 W (.cells #[] 3) 3 #[.int .i64 0])) hgr1 (fun he => Nat.succ_ne_self _ (Option.some.inj he)))
             | (have hx1:Bk w1 W.heap.size 3 #[.int .i64 0]:=Bk.grown (Bk.drew (Bk.drew (Bk.alloc (Bk.new W 3 #[.int .i64 0]) (.cells #[] 3)))) hgr1 (fun he => Nat.succ_ne_self _ (Option.some.inj he).symm))
             | (have hx1:Bk w1 (W.heap.size + 1) 3 #[.int .i64 0]:=Bk.grown (Bk.drew (Bk.drew (Bk.new1 W (.cells #[] 3) 3 #[.int .i64 0]))) hgr1 (fun he => Nat.succ_ne_self _ (Option.some.inj he)))
             | (have hx1:=True.intro)
             clear hgr1)
          | (have hown3u:=hown2;clear hown3u;refine step_append_rd rfl (.tmp 41) (.tmp 44) 74 rfl W.heap.size 3 i0 (.int .i64 0) 1 8 Tryz.underlying74 hi hz0 hz1 hz2 rfl (by decide) v2 (0 + 1) ((natsV es).take 0 ++ [.int .i64 0]) rfl (by repeat (first | with_reducible exact hown2 | with_reducible refine World.ownsRow.drew ?_ | with_reducible refine World.ownsRow.alloc ?_ _)) none (0 - 0) (0 - 0) ((natsV es).drop 0) rfl HN3.out HL3.out (HRd3.out _ (by repeat (first | with_reducible exact hbe2 | with_reducible refine Below.drew ?_ | with_reducible refine Below.alloc ?_ (by first | omega | (simp;all_goals fail) | (simp;omega)) _))) HO3.out (by unfold maxLen;omega) (by omega) (by first | omega | (simp;all_goals fail) | (simp;omega)) ?_
             intro v3 w3 hown3 hgr3
             have hbe3:Below W.heap.size W w3:=Below.grown (by repeat (first | with_reducible exact hbe2 | with_reducible refine Below.drew ?_ | with_reducible refine Below.alloc ?_ (by first | omega | (simp;all_goals fail) | (simp;omega)) _)) hgr3 (by first | omega | (simp;all_goals fail) | (simp;omega)) (fun g hg => (hown2.lt g hg).1)
             have hlen3:0 + 1 + (0 - 0) = 0 + 1:=by omega
             rw [hlen3] at hown3
             obtain ⟨A3,c3,rfl⟩:=own_form3 hown3
             clear hgr3)
          | (refine step_append_rd rfl (.tmp 38) (.tmp 40) 74 rfl W.heap.size 3 i0 (.int .i64 0) 1 8 Tryz.underlying74 hi hz0 hz1 hz2 rfl (by decide) v1 0 ((natsV es).take 0) rfl (by repeat (first | with_reducible exact hown1 | with_reducible refine World.ownsRow.drew ?_ | with_reducible refine World.ownsRow.alloc ?_ _)) (some ⟨_,0,none⟩) 1 1 [.int .i64 0] rfl (fun h => by cases h) rfl (bkRdQ (by repeat (first | with_reducible exact hx1 | (with_reducible refine Bk.newAt ?_;first | with_reducible rfl | (simp;all_goals fail)) | with_reducible refine Bk.drew ?_ | with_reducible refine Bk.alloc ?_ _))) HOx.out (by unfold maxLen;omega) (by omega) (by first | omega | (simp;all_goals fail) | (simp;omega)) ?_
             intro v2 w2 hown2 hgr2
             have hbe2:Below W.heap.size W w2:=Below.grown (by repeat (first | with_reducible exact hbe1 | with_reducible refine Below.drew ?_ | with_reducible refine Below.alloc ?_ (by first | omega | (simp;all_goals fail) | (simp;omega)) _)) hgr2 (by first | omega | (simp;all_goals fail) | (simp;omega)) (fun g hg => (hown1.lt g hg).1)
             have hz2':=hbe2.size
             clear hgr2))
         all_goals go_wp2_with fail
         all_goals go_roundw
         all_goals (try (simp [intOf];omega))
         all_goals exact ⟨0 + 1,A3,c3,es.take 0 ++ 0 :: es.drop 0,by omega,by go_num,rfl,HFin,hide (by have:=(own_rdN hown3).1;unfold natsV;rw [List.map_append,List.map_cons,List.map_take,List.map_drop];simpa [natsV] using this),(own_rdN hown3).2,own_kind hown3,hide (HBeW.out.trans (hbe3.mono hz))⟩
       · have ka0:decide ((0:Int) < (a:Int)) = false:=decide_eq_false (by omega)
         have kn0:decide (0 < a) = false:=decide_eq_false (by omega)
         have HA0:=hide ha0
         clear ha0
         go_wp2_with fail
         go_quiet (fail)
         go_wp2_with fail
         obtain ⟨W,hW⟩:∃ W,W = wr.drewN nq:=⟨_,rfl⟩
         have HBW:Hid (Rd W W.heap.size (some ⟨b2,o2,none⟩) (natsV es)):=hide (by rw [hW];exact HB.out.drewN _)
         have HBeW:Hid (Below w.heap.size w W):=hide (by rw [hW];exact below_drewN HBe.out _)
         rw [← hW]
         clear hW HB HBe hz
         have hz:=HBeW.out.size
         have own0:∀ (W1:World) (g:Nat),Bk W1 g 3 #[] → W.heap.size ≤ g → W1.ownsRow W.heap.size 3 1 (.slice (some ⟨g,0,none⟩) 0 0) 0 []:=fun W1 g hb hg => ⟨rfl,.inr ⟨g,0,#[],rfl,hg,hb,Nat.le_refl _,Nat.zero_le _,rfl,rfl⟩⟩
         have HOwn:=hide own0
         have hel:=HE.out.len
         have HFin:=hide (HE.out.put (k:=a) hlt (by omega) HG.out (fun y h0 => by have:=HA0.out;omega))
         have rd1:∀ W1,Below W.heap.size W W1 → Rd W1 W1.heap.size (some ⟨b2,o2,none⟩) ((natsV es).take a):=fun W1 hW1 => ((HBW.out.takeN a).below hW1).more hW1.size
         have rd3:∀ W1,Below W.heap.size W W1 → Rd W1 W1.heap.size (if cB = a then some ⟨b2,o2,none⟩ else some ⟨b2,o2 + a,none⟩) ((natsV es).drop a):=fun W1 hW1 => by
          split
          · rw [List.drop_eq_nil_of_le (by unfold natsV;rw [List.length_map];omega)];exact Rd.nil_
          · exact ((HBW.out.dropAt _).below hW1).more hW1.size
         have hn1:(some ⟨b2,o2,none⟩) = (none:Option Addr) → cB = 0:=fun h => by cases h
         have hn3:(if cB = a then some ⟨b2,o2,none⟩ else some ⟨b2,o2 + a,none⟩) = (none:Option Addr) → cB - a = 0:=fun h => by split at h <;> cases h
         have HRd1:=hide rd1
         have HRd3:=hide rd3
         have HN1:=hide hn1
         have HN3:=hide hn3
         have HL1:=hide (show ((natsV es).take a).length = a * 1 by unfold natsV;rw [List.length_take,List.length_map];omega)
         have HL3:=hide (show ((natsV es).drop a).length = (k - a) * 1 by unfold natsV;rw [List.length_drop,List.length_map];omega)
         have HO1:=hide (show ∀ u ∈ (natsV es).take a,u.oneCell' = true from fun u hu => by obtain ⟨x,_,rfl⟩:=List.mem_map.1 (List.mem_of_mem_take hu);rfl)
         have HO3:=hide (show ∀ u ∈ (natsV es).drop a,u.oneCell' = true from fun u hu => by obtain ⟨x,_,rfl⟩:=List.mem_map.1 (List.mem_of_mem_drop hu);rfl)
         have HOx:=hide (show ∀ u ∈ [Value.int .i64 (k:Nat)],u.oneCell' = true from fun u hu => by rw [List.mem_singleton.1 hu];rfl)
         have hak2:a ≤ k:=by omega
         have hac:a ≤ cB:=by omega
         clear own0 rd1 rd3 hn1 hn3 hel
         go_region_law (
          first
          | (refine step_append_rd rfl (.tmp 34) (.tmp 37) 74 rfl W.heap.size 3 i0 (.int .i64 0) 1 8 Tryz.underlying74 hi hz0 hz1 hz2 rfl (by decide) _ 0 [] rfl (HOwn.out _ _ (by repeat (first | (with_reducible refine Bk.newAt ?_;first | with_reducible rfl | (simp;all_goals fail)) | with_reducible refine Bk.drew ?_ | with_reducible refine Bk.alloc ?_ _)) (by first | omega | (simp;all_goals fail) | (simp;omega))) (some ⟨b2,o2,none⟩) a cB ((natsV es).take a) rfl HN1.out HL1.out (HRd1.out _ (by repeat (first | with_reducible exact Below.refl _ W | with_reducible refine Below.drew ?_ | with_reducible refine Below.alloc ?_ (by first | omega | (simp;all_goals fail) | (simp;omega)) _))) HO1.out (by unfold maxLen;omega) (by omega) (by first | omega | (simp;all_goals fail) | (simp;omega)) ?_
             intro v1 w1 hown1 hgr1
             replace hgr1:World.grownBy _ w1 (some _):=hgr1
             rw [Nat.zero_add,List.nil_append] at hown1
             have hbe1:Below W.heap.size W w1:=Below.grown (by repeat (first | with_reducible exact Below.refl _ W | with_reducible refine Below.drew ?_ | with_reducible refine Below.alloc ?_ (by first | omega | (simp;all_goals fail) | (simp;omega)) _)) hgr1 (by first | omega | (simp;all_goals fail) | (simp;omega)) (fun g hg => by have:=Option.some.inj hg;first | omega | (simp at this;all_goals fail) | (simp at this;omega))
             have hz1':=hbe1.size
             first
             | (have hx1:Bk w1 W.heap.size 3 #[.int .i64 (k:Nat)]:=Bk.grown (Bk.drew (Bk.alloc (Bk.new W 3 #[.int .i64 (k:Nat)]) (.cells #[] 3))) hgr1 (fun he => Nat.succ_ne_self _ (Option.some.inj he).symm))
             | (have hx1:Bk w1 (W.heap.size + 1) 3 #[.int .i64 (k:Nat)]:=Bk.grown (Bk.drew (Bk.new1 W (.cells #[] 3) 3 #[.int .i64 (k:Nat)])) hgr1 (fun he => Nat.succ_ne_self _ (Option.some.inj he)))
             | (have hx1:Bk w1 W.heap.size 3 #[.int .i64 (k:Nat)]:=Bk.grown (Bk.drew (Bk.drew (Bk.alloc (Bk.new W 3 #[.int .i64 (k:Nat)]) (.cells #[] 3)))) hgr1 (fun he => Nat.succ_ne_self _ (Option.some.inj he).symm))
             | (have hx1:Bk w1 (W.heap.size + 1) 3 #[.int .i64 (k:Nat)]:=Bk.grown (Bk.drew (Bk.drew (Bk.new1 W (.cells #[] 3) 3 #[.int .i64 (k:Nat)]))) hgr1 (fun he => Nat.succ_ne_self _ (Option.some.inj he)))
             | (have hx1:=True.intro)
             clear hgr1)
          | (have hown3u:=hown2;clear hown3u;refine step_append_rd rfl (.tmp 41) (.tmp 44) 74 rfl W.heap.size 3 i0 (.int .i64 0) 1 8 Tryz.underlying74 hi hz0 hz1 hz2 rfl (by decide) v2 (a + 1) ((natsV es).take a ++ [.int .i64 (k:Nat)]) rfl (by repeat (first | with_reducible exact hown2 | with_reducible refine World.ownsRow.drew ?_ | with_reducible refine World.ownsRow.alloc ?_ _)) (if cB = a then some ⟨b2,o2,none⟩ else some ⟨b2,o2 + a,none⟩) (k - a) (cB - a) ((natsV es).drop a) rfl HN3.out HL3.out (HRd3.out _ (by repeat (first | with_reducible exact hbe2 | with_reducible refine Below.drew ?_ | with_reducible refine Below.alloc ?_ (by first | omega | (simp;all_goals fail) | (simp;omega)) _))) HO3.out (by unfold maxLen;omega) (by omega) (by first | omega | (simp;all_goals fail) | (simp;omega)) ?_
             intro v3 w3 hown3 hgr3
             have hbe3:Below W.heap.size W w3:=Below.grown (by repeat (first | with_reducible exact hbe2 | with_reducible refine Below.drew ?_ | with_reducible refine Below.alloc ?_ (by first | omega | (simp;all_goals fail) | (simp;omega)) _)) hgr3 (by first | omega | (simp;all_goals fail) | (simp;omega)) (fun g hg => (hown2.lt g hg).1)
             have hlen3:a + 1 + (k - a) = k + 1:=by omega
             rw [hlen3] at hown3
             obtain ⟨A3,c3,rfl⟩:=own_form3 hown3
             clear hgr3)
          | (refine step_append_rd rfl (.tmp 38) (.tmp 40) 74 rfl W.heap.size 3 i0 (.int .i64 0) 1 8 Tryz.underlying74 hi hz0 hz1 hz2 rfl (by decide) v1 a ((natsV es).take a) rfl (by repeat (first | with_reducible exact hown1 | with_reducible refine World.ownsRow.drew ?_ | with_reducible refine World.ownsRow.alloc ?_ _)) (some ⟨_,0,none⟩) 1 1 [.int .i64 (k:Nat)] rfl (fun h => by cases h) rfl (bkRdQ (by repeat (first | with_reducible exact hx1 | (with_reducible refine Bk.newAt ?_;first | with_reducible rfl | (simp;all_goals fail)) | with_reducible refine Bk.drew ?_ | with_reducible refine Bk.alloc ?_ _))) HOx.out (by unfold maxLen;omega) (by omega) (by first | omega | (simp;all_goals fail) | (simp;omega)) ?_
             intro v2 w2 hown2 hgr2
             have hbe2:Below W.heap.size W w2:=Below.grown (by repeat (first | with_reducible exact hbe1 | with_reducible refine Below.drew ?_ | with_reducible refine Below.alloc ?_ (by first | omega | (simp;all_goals fail) | (simp;omega)) _)) hgr2 (by first | omega | (simp;all_goals fail) | (simp;omega)) (fun g hg => (hown1.lt g hg).1)
             have hz2':=hbe2.size
             clear hgr2))
         all_goals go_wp2_with fail
         all_goals go_roundw
         all_goals (try (simp [intOf];omega))
         all_goals exact ⟨k + 1,A3,c3,es.take a ++ k :: es.drop a,by omega,by go_num,rfl,HFin,hide (by have:=(own_rdN hown3).1;unfold natsV;rw [List.map_append,List.map_cons,List.map_take,List.map_drop];simpa [natsV] using this),(own_rdN hown3).2,own_kind hown3,hide (HBeW.out.trans (hbe3.mono hz))⟩
     · obtain ⟨m,rfl⟩:∃ m,a = m + 1:=⟨a - 1,by omega⟩
       have hml:m < es.length:=by have:=HE.out.len;omega
       obtain ⟨y,hy⟩:∃ y,es[m]? = some y:=⟨es[m],List.getElem?_eq_getElem hml⟩
       have hys:y < s.length:=by have:=HE.out.lt (List.mem_of_getElem? hy);omega
       obtain ⟨b2,o2,hB2,hb2,hc2⟩:=HB.out m (.int .i64 y) (by unfold natsV;rw [List.getElem?_map,hy];rfl)
       subst hB2
       have hmI:(((m + 1:Nat):Int)) - 1 = (m:Int):=by omega
       have hmk:m < k:=by omega
       have hy1:y ≤ s.length:=by omega
       have hk1:k ≤ s.length:=by omega
       have hcy:¬ c = y:=by omega
       have hmw:IntKind.i64.wrap (m:Int) = (m:Int):=IntWalk.i64_in _ ⟨by omega,by omega⟩
       have hck:¬ c = k:=by omega
       have HL:=hide (fun (q:Nat) => Calls.quiet_of (HLess.out (wr.drewN q) y (c - k) (c - y) hys (below_drewN HBe.out _)))
       have HY:=hide hy
       clear hy hml hB
       obtain ⟨S,hS⟩:∃ S,S = sufLt s k y:=⟨_,rfl⟩
       rw [← hS] at HL
       have HS:=hide hS
       clear hS
       cases S
       · go_wp2_with fail
         go_quiet ((go_at_call 105;exact HL.out _))
         go_wp2_with fail
         have hm1:((m:Int) + 1) = ((m + 1:Nat):Int):=by omega
         obtain ⟨a,ha⟩:∃ a,a = m + 1:=⟨_,rfl⟩
         have HA1:=hide ha
         rw [← ha] at HG hak ⊢
         have hak3:a ≤ k:=hak
         clear hm1 ha hmI hmk hc2
         obtain ⟨W,hW⟩:∃ W,W = wr.drewN nq:=⟨_,rfl⟩
         have HBW:Hid (Rd W W.heap.size (some ⟨b2,o2,none⟩) (natsV es)):=hide (by rw [hW];exact HB.out.drewN _)
         have HBeW:Hid (Below w.heap.size w W):=hide (by rw [hW];exact below_drewN HBe.out _)
         rw [← hW]
         clear hW HB HBe hz
         have hz:=HBeW.out.size
         have own0:∀ (W1:World) (g:Nat),Bk W1 g 3 #[] → W.heap.size ≤ g → W1.ownsRow W.heap.size 3 1 (.slice (some ⟨g,0,none⟩) 0 0) 0 []:=fun W1 g hb hg => ⟨rfl,.inr ⟨g,0,#[],rfl,hg,hb,Nat.le_refl _,Nat.zero_le _,rfl,rfl⟩⟩
         have HOwn:=hide own0
         have hel:=HE.out.len
         have HFin:=hide (HE.out.put (k:=a) hlt (by omega) HG.out (fun y' _ hy' => by rw [HA1.out,Nat.add_sub_cancel,HY.out] at hy';cases hy';exact HS.out.symm))
         have rd1:∀ W1,Below W.heap.size W W1 → Rd W1 W1.heap.size (some ⟨b2,o2,none⟩) ((natsV es).take a):=fun W1 hW1 => ((HBW.out.takeN a).below hW1).more hW1.size
         have rd3:∀ W1,Below W.heap.size W W1 → Rd W1 W1.heap.size (if cB = a then some ⟨b2,o2,none⟩ else some ⟨b2,o2 + a,none⟩) ((natsV es).drop a):=fun W1 hW1 => by
          split
          · rw [List.drop_eq_nil_of_le (by unfold natsV;rw [List.length_map];omega)];exact Rd.nil_
          · exact ((HBW.out.dropAt _).below hW1).more hW1.size
         have hn1:(some ⟨b2,o2,none⟩) = (none:Option Addr) → cB = 0:=fun h => by cases h
         have hn3:(if cB = a then some ⟨b2,o2,none⟩ else some ⟨b2,o2 + a,none⟩) = (none:Option Addr) → cB - a = 0:=fun h => by split at h <;> cases h
         have HRd1:=hide rd1
         have HRd3:=hide rd3
         have HN1:=hide hn1
         have HN3:=hide hn3
         have HL1:=hide (show ((natsV es).take a).length = a * 1 by unfold natsV;rw [List.length_take,List.length_map];omega)
         have HL3:=hide (show ((natsV es).drop a).length = (k - a) * 1 by unfold natsV;rw [List.length_drop,List.length_map];omega)
         have HO1:=hide (show ∀ u ∈ (natsV es).take a,u.oneCell' = true from fun u hu => by obtain ⟨x,_,rfl⟩:=List.mem_map.1 (List.mem_of_mem_take hu);rfl)
         have HO3:=hide (show ∀ u ∈ (natsV es).drop a,u.oneCell' = true from fun u hu => by obtain ⟨x,_,rfl⟩:=List.mem_map.1 (List.mem_of_mem_drop hu);rfl)
         have HOx:=hide (show ∀ u ∈ [Value.int .i64 (k:Nat)],u.oneCell' = true from fun u hu => by rw [List.mem_singleton.1 hu];rfl)
         have hak2:a ≤ k:=by omega
         have hac:a ≤ cB:=by omega
         clear own0 rd1 rd3 hn1 hn3 hel
         go_region_law (
          first
          | (refine step_append_rd rfl (.tmp 34) (.tmp 37) 74 rfl W.heap.size 3 i0 (.int .i64 0) 1 8 Tryz.underlying74 hi hz0 hz1 hz2 rfl (by decide) _ 0 [] rfl (HOwn.out _ _ (by repeat (first | (with_reducible refine Bk.newAt ?_;first | with_reducible rfl | (simp;all_goals fail)) | with_reducible refine Bk.drew ?_ | with_reducible refine Bk.alloc ?_ _)) (by first | omega | (simp;all_goals fail) | (simp;omega))) (some ⟨b2,o2,none⟩) a cB ((natsV es).take a) rfl HN1.out HL1.out (HRd1.out _ (by repeat (first | with_reducible exact Below.refl _ W | with_reducible refine Below.drew ?_ | with_reducible refine Below.alloc ?_ (by first | omega | (simp;all_goals fail) | (simp;omega)) _))) HO1.out (by unfold maxLen;omega) (by omega) (by first | omega | (simp;all_goals fail) | (simp;omega)) ?_
             intro v1 w1 hown1 hgr1
             replace hgr1:World.grownBy _ w1 (some _):=hgr1
             rw [Nat.zero_add,List.nil_append] at hown1
             have hbe1:Below W.heap.size W w1:=Below.grown (by repeat (first | with_reducible exact Below.refl _ W | with_reducible refine Below.drew ?_ | with_reducible refine Below.alloc ?_ (by first | omega | (simp;all_goals fail) | (simp;omega)) _)) hgr1 (by first | omega | (simp;all_goals fail) | (simp;omega)) (fun g hg => by have:=Option.some.inj hg;first | omega | (simp at this;all_goals fail) | (simp at this;omega))
             have hz1':=hbe1.size
             first
             | (have hx1:Bk w1 W.heap.size 3 #[.int .i64 (k:Nat)]:=Bk.grown (Bk.drew (Bk.alloc (Bk.new W 3 #[.int .i64 (k:Nat)]) (.cells #[] 3))) hgr1 (fun he => Nat.succ_ne_self _ (Option.some.inj he).symm))
             | (have hx1:Bk w1 (W.heap.size + 1) 3 #[.int .i64 (k:Nat)]:=Bk.grown (Bk.drew (Bk.new1 W (.cells #[] 3) 3 #[.int .i64 (k:Nat)])) hgr1 (fun he => Nat.succ_ne_self _ (Option.some.inj he)))
             | (have hx1:Bk w1 W.heap.size 3 #[.int .i64 (k:Nat)]:=Bk.grown (Bk.drew (Bk.drew (Bk.alloc (Bk.new W 3 #[.int .i64 (k:Nat)]) (.cells #[] 3)))) hgr1 (fun he => Nat.succ_ne_self _ (Option.some.inj he).symm))
             | (have hx1:Bk w1 (W.heap.size + 1) 3 #[.int .i64 (k:Nat)]:=Bk.grown (Bk.drew (Bk.drew (Bk.new1 W (.cells #[] 3) 3 #[.int .i64 (k:Nat)]))) hgr1 (fun he => Nat.succ_ne_self _ (Option.some.inj he)))
             | (have hx1:=True.intro)
             clear hgr1)
          | (have hown3u:=hown2;clear hown3u;refine step_append_rd rfl (.tmp 41) (.tmp 44) 74 rfl W.heap.size 3 i0 (.int .i64 0) 1 8 Tryz.underlying74 hi hz0 hz1 hz2 rfl (by decide) v2 (a + 1) ((natsV es).take a ++ [.int .i64 (k:Nat)]) rfl (by repeat (first | with_reducible exact hown2 | with_reducible refine World.ownsRow.drew ?_ | with_reducible refine World.ownsRow.alloc ?_ _)) (if cB = a then some ⟨b2,o2,none⟩ else some ⟨b2,o2 + a,none⟩) (k - a) (cB - a) ((natsV es).drop a) rfl HN3.out HL3.out (HRd3.out _ (by repeat (first | with_reducible exact hbe2 | with_reducible refine Below.drew ?_ | with_reducible refine Below.alloc ?_ (by first | omega | (simp;all_goals fail) | (simp;omega)) _))) HO3.out (by unfold maxLen;omega) (by omega) (by first | omega | (simp;all_goals fail) | (simp;omega)) ?_
             intro v3 w3 hown3 hgr3
             have hbe3:Below W.heap.size W w3:=Below.grown (by repeat (first | with_reducible exact hbe2 | with_reducible refine Below.drew ?_ | with_reducible refine Below.alloc ?_ (by first | omega | (simp;all_goals fail) | (simp;omega)) _)) hgr3 (by first | omega | (simp;all_goals fail) | (simp;omega)) (fun g hg => (hown2.lt g hg).1)
             have hlen3:a + 1 + (k - a) = k + 1:=by omega
             rw [hlen3] at hown3
             obtain ⟨A3,c3,rfl⟩:=own_form3 hown3
             clear hgr3)
          | (refine step_append_rd rfl (.tmp 38) (.tmp 40) 74 rfl W.heap.size 3 i0 (.int .i64 0) 1 8 Tryz.underlying74 hi hz0 hz1 hz2 rfl (by decide) v1 a ((natsV es).take a) rfl (by repeat (first | with_reducible exact hown1 | with_reducible refine World.ownsRow.drew ?_ | with_reducible refine World.ownsRow.alloc ?_ _)) (some ⟨_,0,none⟩) 1 1 [.int .i64 (k:Nat)] rfl (fun h => by cases h) rfl (bkRdQ (by repeat (first | with_reducible exact hx1 | (with_reducible refine Bk.newAt ?_;first | with_reducible rfl | (simp;all_goals fail)) | with_reducible refine Bk.drew ?_ | with_reducible refine Bk.alloc ?_ _))) HOx.out (by unfold maxLen;omega) (by omega) (by first | omega | (simp;all_goals fail) | (simp;omega)) ?_
             intro v2 w2 hown2 hgr2
             have hbe2:Below W.heap.size W w2:=Below.grown (by repeat (first | with_reducible exact hbe1 | with_reducible refine Below.drew ?_ | with_reducible refine Below.alloc ?_ (by first | omega | (simp;all_goals fail) | (simp;omega)) _)) hgr2 (by first | omega | (simp;all_goals fail) | (simp;omega)) (fun g hg => (hown1.lt g hg).1)
             have hz2':=hbe2.size
             clear hgr2))
         all_goals go_wp2_with fail
         all_goals go_roundw
         all_goals (try (simp [intOf];omega))
         all_goals exact ⟨k + 1,A3,c3,es.take a ++ k :: es.drop a,by omega,by go_num,rfl,HFin,hide (by have:=(own_rdN hown3).1;unfold natsV;rw [List.map_append,List.map_cons,List.map_take,List.map_drop];simpa [natsV] using this),(own_rdN hown3).2,own_kind hown3,hide (HBeW.out.trans (hbe3.mono hz))⟩
       · go_wp2_with fail
         go_quiet ((go_at_call 105;exact HL.out _))
         go_wp2_with fail
         go_roundw
         case rel =>
          refine ⟨m,by omega,by go_num,hide (fun j y' hj hy' => ?_),hide (HB.out.drewN _),hide (below_drewN HBe.out _)⟩
          by_cases e:j = m
          · subst e;rw [HY.out] at hy';cases hy';exact HS.out.symm
          · exact HG.out j y' (by omega) hy'
         case measure => simp [intOf]
  · obtain rfl:k = s.length:=by omega
    go_wp2_with fail
    go_ret2
    exact ⟨B,cB,es,rfl,HE.out.all,HB.out,HBe.out⟩
end Go.Proofs.YtcfnjpokfodmoaaGreatDoor
