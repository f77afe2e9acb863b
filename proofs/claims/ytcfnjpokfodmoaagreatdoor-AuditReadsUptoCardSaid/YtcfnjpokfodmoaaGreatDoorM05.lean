/- Lemmas for the row: Leaves, PNext. -/
import Derived.Test.YtcfnjpokfodmoaaGreatDoorM02
import Derived.Test.YtcfnjpokfodmoaaGreatDoorM04
set_option maxRecDepth 100000
set_option linter.unusedVariables false
namespace Go.Proofs.YtcfnjpokfodmoaaGreatDoor
open Go.RowKit
theorem sortNil_any (F:Value) (w:World):Calls Tryz.prog 186 #[.slice none 0 0,F] w fun e w' => e = .returned (.tuple #[]) ∧ w' = w:=by
 have ins:∀ W,Calls Tryz.prog 216 #[.slice none 0 0,.int .i64 0,.int .i64 0,F] W fun e w' => e = .returned (.tuple #[]) ∧ w' = W:=by
  intro W
  go_enter Tryz.func216,Tryz.ntmps216
  go_wp2_with fail
  refine wp_loop_rounds 1 ?_
  rw [rounds_succ]
  go_wp2_with fail
  go_end0
  exact ⟨rfl,rfl⟩
 have HI:=hide ins
 clear ins
 have st:∀ W,Calls Tryz.prog 233 #[.slice none 0 0,.int .i64 0,F] W fun e w' => e = .returned (.tuple #[]) ∧ w' = W:=by
  intro W
  go_enter Tryz.func233,Tryz.ntmps233
  go_wp2_with fail
  refine wp_loop_rounds 1 ?_
  rw [rounds_succ]
  go_wp2_with (go_at_call 216;refine (Calls.mono (HI.out _) ?_);rintro e w1 ⟨rfl,hww⟩;replace hww:=hww.symm;subst hww)
  refine wp_loop_rounds 1 ?_
  rw [rounds_succ]
  go_wp2_with fail
  go_end0
  exact ⟨rfl,rfl⟩
 have HS:=hide st
 clear st
 go_enter Tryz.func186,Tryz.ntmps186
 go_wp2_with (go_at_call 233;refine (Calls.mono (HS.out _) ?_);rintro e w1 ⟨rfl,hww⟩;replace hww:=hww.symm;subst hww)
 go_end0
 exact ⟨rfl,rfl⟩
theorem own_dat {w:World} {base n:Nat} {v:Value} {xs:List Nat} (h:w.ownsRow base 3 1 v n (xs.map fun (x:Nat) => Value.int .i64 x)) :
 (v = .slice none 0 0 ∧ xs = []) ∨ ∃ g c,v = .slice (some ⟨g,0,none⟩) xs.length c ∧ base ≤ g ∧ Dat w g xs:=by
 have h1:=h.1
 rcases h.2 with ⟨hv,hn⟩ | ⟨g,cap,cur,hv,hb,hg,hc⟩
 · refine .inl ⟨hv,List.eq_nil_of_length_eq_zero ?_⟩
   simpa [hn] using h1
 · have hn:n = xs.length:=by simpa using h1.symm
   subst hn
   refine .inr ⟨g,cap,hv,hb,cur,hg,fun i x hx => ?_⟩
   have:=h.cells (g:=g) (by rw [hv];rfl) i (.int .i64 x) (by simp [hx])
   rw [Addr.add_lit,Nat.zero_add] at this
   exact (Bk.cell (w:=w) hg i).symm.trans this
set_option maxHeartbeats 4000000 in
theorem leaves_any (A:Option Addr) (ws:List Int) (c:Nat) (w:World) (h:Rd w w.heap.size A (ws.map (.int .u64))) (hlen:ws.length ≤ 512) (hw0:∀ x ∈ ws,0 ≤ x) :
 Calls Tryz.prog 135 #[.slice A ws.length c] w fun e w' => ∃ A' c',e = .returned (.slice A' (ordL ws).length c') ∧ Rd w' w'.heap.size A' ((ordL ws).map fun (x:Nat) => Value.int .i64 x) ∧ (∀ a,A' = some a → w.heap.size ≤ a.block) ∧ Below w.heap.size w w':=by
 obtain ⟨i0,hi,hz0,hz1,hz2⟩:=info_parts info_int
 have H:=hide h
 clear h
 go_enter Tryz.func135,Tryz.ntmps135
 go_wp2_with fail
 go_loopw [3,8] (fun v i wr => ∃ k:Nat,k ≤ ws.length ∧ i = .int .i64 k ∧ Hid (wr.ownsRow (w.heap.size + 1) 3 1 v (symK ws k).length ((symK ws k).map fun (x:Nat) => Value.int .i64 x)) ∧ Bk wr w.heap.size 93 #[.slice A ws.length c] ∧ Below w.heap.size w wr) (fun _ i _ => ws.length - (intOf i).toNat)
 case atStart => exact ⟨0,by omega,rfl,World.ownsRow_nil _ _ _ _,Bk.new _ _ _,by go_grown⟩
 case round =>
  obtain ⟨k,hk,rfl,hown,hbk,hbe⟩:=hrel
  have hz:=hbk.lt
  by_cases hlt:k < ws.length
  · obtain ⟨b,o,x,hAx,hb,hx,hc0⟩:=H.out.int hlt
    subst hAx
    have hc:=(hbe.cell (p:=⟨b,o + k,none⟩) hb).trans hc0
    have hx2:ws.getD k 0 = x:=by rw [List.getD_eq_getElem?_getD,hx];rfl
    have HX:=hide hx2
    have HX0:=hide (hw0 x (List.mem_of_getElem? hx))
    have hsl:=symK_length ws k
    clear hx hc0 hx2
    by_cases hp:0 < x
    · have dp:decide (0 < x) = true:=decide_eq_true hp
      go_wp2_with (at_builtin;refine wpList_append_own _ rfl (.tmp 15) (.tmp 17) 74 rfl (w.heap.size + 1) 3 i0 (.int .i64 0) 1 8 Tryz.underlying74 hi hz0 hz1 hz2 rfl (by decide) _ _ _ rfl (hown.out.alloc _) ⟨wr.heap.size,0,none⟩ 1 1 [.int .i64 k] rfl rfl (cell_one_new _ _ _) (by intro u hu;simp at hu;subst hu;rfl) (by unfold maxLen;omega) (by omega) (by simp;omega) ?_;intro v' w2 hown2 hgr2 _)
      have hbe2:=((hbe.alloc (by omega) (.cells #[.int .i64 k] 3))).grown hgr2 (by simp;omega) (fun g hg => by have:=((hown.out.alloc (.cells #[.int .i64 k] 3)).lt g hg).1;omega)
      have hne:=own_ne (hown.out.alloc (.cells #[.int .i64 k] 3)) (hbk.alloc (.cells #[.int .i64 k] 3)) (by decide)
      have hbk2:=(hbk.alloc (.cells #[.int .i64 k] 3)).grown hgr2 hne
      have hst:symK ws (k + 1) = symK ws k ++ [k]:=by rw [symK_step,HX.out,if_pos hp]
      go_roundw
      case rel => exact ⟨k + 1,by omega,by go_num,hide (by rw [hst,List.map_append,List.length_append];exact hown2),hbk2,hbe2⟩
      case measure => simp [intOf];omega
    · have dp:decide (0 < x) = false:=decide_eq_false hp
      have hst:symK ws (k + 1) = symK ws k:=by rw [symK_step,HX.out,if_neg hp,List.append_nil]
      have HSt:=hide hst
      clear hst
      go_wp2_with fail
      go_roundw
      case rel => exact ⟨k + 1,by omega,by go_num,hide (by rw [HSt.out];exact hown.out),hbk,hbe⟩
      case measure => simp [intOf];omega
  · obtain rfl:k = ws.length:=by omega
    have hcell:=hbk.cell 0
    simp at hcell
    rcases own_dat hown.out with ⟨rfl,hnil⟩ | ⟨g,c',rfl,hg,hd⟩
    · have ho:ordL ws = []:=List.eq_nil_of_length_eq_zero (by rw [(ordL_perm ws).length_eq];unfold symL;rw [hnil];rfl)
      have HO:=hide ho
      have sn:=fun (F:Value) => sortNil_any F wr
      have HSn:=hide sn
      clear sn ho hnil hown
      go_wp2_with (go_at_call 186;refine (Calls.mono (HSn.out _) ?_);rintro e w1 ⟨rfl,hww⟩;replace hww:=hww.symm;subst hww)
      go_ret
      exact ⟨none,0,by rw [HO.out];rfl,by rw [HO.out];exact Rd.nil_,(fun a ha => by cases ha),hbe⟩
    · have cmpat:CmpAt g w.heap.size ws wr:=by
       intro W hW x y hx hy
       have hcW:W.cell? ⟨w.heap.size,0,none⟩ = some (.slice A ws.length c):=hW.cell (by show ¬ (w.heap.size = g);omega) hcell
       have hrW:Rd W W.heap.size A (ws.map (.int .u64)):=((H.out.below hbe).fr hW (fun k hk => by show ¬ (k = g);omega)).more (Nat.le_trans hbe.size hW.size)
       exact lcmp_any w.heap.size A ws c x y W hcW hrW hx hy
      have st:=sortStable_any g w.heap.size c' _ ws (symK ws ws.length) wr hd rfl (by have:=symK_length ws ws.length;omega) (symK_sorted _ _) (fun x hx => (symK_lt hx).1) cmpat
      have HSt:=hide st
      have hgl:=hd.lt
      obtain ⟨N,hN⟩:∃ N,N = (symK ws ws.length).length:=⟨_,rfl⟩
      rw [← hN] at HSt ⊢
      have HN:=hide hN
      clear st cmpat hown hd hN
      go_wp2_with (go_at_call 186;refine (Calls.mono HSt.out ?_);rintro e9 w9 ⟨Z9,rfl,hp9,hs9,hd9,hf9⟩;have HP9:=hide hp9;have HS9:=hide hs9;have HD9:=hide hd9;have HF9:=hide hf9;clear hp9 hs9 hd9 hf9)
      have hZ:Z9 = ordL ws:=order_one (HP9.out.trans (ordL_perm ws).symm) HS9.out (ordL_sorted ws)
      have hL:N = (ordL ws).length:=by rw [HN.out,(ordL_perm ws).length_eq];rfl
      subst hL
      go_ret
      refine ⟨_,_,rfl, ?_,(fun a ha => by cases ha;exact Nat.le_trans (Nat.le_succ _) hg),hbe.trans (HF9.out.toBelowB (by rintro k rfl;omega) hbe.size)⟩
      have hd9:=HD9.out
      simp only [List.nil_append,List.append_nil] at hd9
      rw [hZ] at hd9
      intro i u hu
      rw [List.getElem?_map] at hu
      obtain ⟨x,hx,rfl⟩:=Option.map_eq_some_iff.1 hu
      exact ⟨g,0,rfl,hd9.lt,by rw [Nat.zero_add];exact hd9.cell hx⟩
theorem info_item:(Tryz.prog.info? 273).map (fun i => (i.zero,i.size,i.bytes)) = some (some (.agg #[.int .u64 0,.int .i64 0,.int .i64 0]),3,24):=by kernel_rfl
def RdI (w:World) (B:Nat) (A:Option Addr) (l:List It):Prop:=Rd w B A (flatV l)
theorem RdI.at_ {w:World} {B:Nat} {A:Option Addr} {l:List It} (h:RdI w B A l) {j:Nat} {x:It} (hx:l[j]? = some x) :
 ∃ b o,A = some ⟨b,o,none⟩ ∧ b < B ∧ w.cell? ⟨b,o + j * 3,none⟩ = some (.int .u64 x.w) ∧ w.cell? ⟨b,o + j * 3 + 1,none⟩ = some (.int .i64 x.leaf) ∧ w.cell? ⟨b,o + j * 3 + 2,none⟩ = some (.int .i64 x.first):=by
 obtain ⟨h0,h1,h2⟩:=flatV_get hx
 obtain ⟨b,o,rfl,hb,c0⟩:=h _ _ h0
 obtain ⟨b1,o1,e1,_,c1⟩:=h _ _ h1
 obtain ⟨b2,o2,e2,_,c2⟩:=h _ _ h2
 simp only [Option.some.injEq,Addr.mk.injEq,and_true] at e1 e2
 obtain ⟨rfl,rfl⟩:=e1
 obtain ⟨rfl,rfl⟩:=e2
 exact ⟨b,o,rfl,hb,c0,c1,c2⟩
theorem cells_new (w:World) (xs:List Value) (t:TypeId):∀ j u,xs[j]? = some u → (w.alloc (.cells xs.toArray t)).cell? ((⟨w.heap.size,0,none⟩:Addr).add j) = some u:=by
 intro j u hu
 rw [Addr.add_lit,Nat.zero_add,(Bk.new w t xs.toArray).cell j,List.getElem?_toArray]
 exact hu
theorem leafIts_drop {lw:List Nat} {k x:Nat} (h:lw[k]? = some x):leafIts k (lw.drop k) = ⟨x,k,0⟩ :: leafIts (k + 1) (lw.drop (k + 1)):=by
 obtain ⟨hk,rfl⟩:=List.getElem?_eq_some_iff.1 h
 rw [List.drop_eq_getElem_cons hk,leafIts]
theorem pkgs_drop {lv:List It} {i:Nat} {a b:It} (h:lv[i]? = some a) (h2:lv[i + 1]? = some b):pkgs i (lv.drop i) = ⟨a.w + b.w,-1,i⟩ :: pkgs (i + 2) (lv.drop (i + 2)):=by
 obtain ⟨hk,rfl⟩:=List.getElem?_eq_some_iff.1 h
 obtain ⟨hk2,rfl⟩:=List.getElem?_eq_some_iff.1 h2
 rw [List.drop_eq_getElem_cons hk,List.drop_eq_getElem_cons hk2,pkgs]
theorem pkgs_end {lv:List It} {i:Nat} (h:lv.length ≤ i + 1):pkgs i (lv.drop i) = []:=by
 cases hd:lv.drop i with
 | nil => rfl
 | cons a r =>
   have:=congrArg List.length hd
   rw [List.length_drop,List.length_cons] at this
   have hr:r = []:=List.eq_nil_of_length_eq_zero (by omega)
   rw [hr];rfl
theorem own_form3 {w:World} {base e size n:Nat} {v:Value} {xs:List Value} (h:w.ownsRow base e size v n xs):∃ A c,v = .slice A n c:=by
 rcases h.2 with ⟨hv,hn⟩ | ⟨g,cap,cur,hv,_⟩
 · exact ⟨none,0,by rw [hv,hn]⟩
 · exact ⟨_,cap,hv⟩
def NextLP (T:List It) (w:World) (e:Ending) (w':World):Prop :=
 ∃ A c,e = .returned (.slice A T.length c) ∧ w'.ownsRow w.heap.size 273 3 (.slice A T.length c) T.length (flatV T) ∧ Below w.heap.size w w'
set_option maxHeartbeats 4000000 in
theorem next_lv (A O V:Option Addr) (ws:List Int) (ord:List Nat) (lv:List It) (ca co cv:Nat) (w:World) (hA:Rd w w.heap.size A (ws.map (.int .u64))) (hO:Rd w w.heap.size O (ord.map fun (x:Nat) => Value.int .i64 x)) (hV:RdI w w.heap.size V lv)
 (hw:ws.length ≤ 512) (ho:ord.length ≤ 512) (hv:lv.length ≤ 1024) (hord:∀ x ∈ ord,x < ws.length) (hws:∀ x ∈ ws,0 ≤ x ∧ x ≤ 1099511627776) (hlv:∀ x ∈ lv,x.w ≤ 1152921504606846976) :
 Calls Tryz.prog 136 #[.slice A ws.length ca,.slice O ord.length co,.slice V lv.length cv] w (NextLP (nxtL (ord.map fun i => (ws.getD i 0).toNat) lv) w):=by
 obtain ⟨i0,hi,hz0,hz1,hz2⟩:=info_parts info_item
 have HA:=hide hA
 have HO:=hide hO
 have HV:=hide hV
 have HW:=hide (And.intro hord (And.intro hws hlv))
 clear hA hO hV hord hws hlv
 obtain ⟨lw,hlw⟩:∃ lw,lw = ord.map fun i => (ws.getD i 0).toNat:=⟨_,rfl⟩
 rw [← hlw]
 have hll:lw.length = ord.length:=by rw [hlw,List.length_map]
 obtain ⟨T,hT⟩:∃ T,T = nxtL lw lv:=⟨_,rfl⟩
 rw [← hT]
 have hTl:T.length = ord.length + lv.length / 2:=by rw [hT,nxtL_length,hll]
 have HLw:=hide hlw
 have HLl:=hide hll
 have HT:=hide hT
 have HTl:=hide hTl
 have leaf:∀ k,k < ord.length → ∃ (bo oo ba oa l x:Nat),O = some ⟨bo,oo,none⟩ ∧ A = some ⟨ba,oa,none⟩ ∧ bo < w.heap.size ∧ ba < w.heap.size ∧ l < ws.length ∧ x ≤ 1099511627776 ∧ Hid (lw[k]? = some x) ∧ w.cell? ⟨bo,oo + k,none⟩ = some (.int .i64 l) ∧ w.cell? ⟨ba,oa + l,none⟩ = some (.int .u64 x):=by
  intro k hk
  obtain ⟨bo,oo,rfl,hbo,hco⟩:=HO.out k (.int .i64 (ord[k]:Nat)) (by simp [hk])
  have hl:=HW.out.1 ord[k] (List.getElem_mem hk)
  obtain ⟨ba,oa,z,rfl,hba,hz,hca⟩:=HA.out.int hl
  have hz2:=HW.out.2.1 z (List.mem_of_getElem? hz)
  obtain ⟨x,rfl⟩:=Int.eq_ofNat_of_zero_le hz2.1
  refine ⟨bo,oo,ba,oa,ord[k],x,rfl,rfl,hbo,hba,hl,by omega,hide ?_,hco,hca⟩
  rw [HLw.out,List.getElem?_map,List.getElem?_eq_getElem hk]
  show some (ws.getD ord[k] 0).toNat = some x
  rw [List.getD_eq_getElem?_getD,hz];rfl
 have HLeaf:=hide leaf
 clear leaf hlw hll hT hTl
 go_enter Tryz.func136,Tryz.ntmps136
 go_wp2_with (refine wpList_make_own _ rfl _ _ 211 rfl w.heap.size 273 i0 _ 3 Tryz.underlying211 hi hz0 hz1 .i64 .i64 _ (ord.length + lv.length / 2) rfl rfl (by omega) (by rw [hz2];omega) (by unfold maxLen;omega) (Nat.le_refl _) ?_;intro w1 hown1 hgr1)
 have hbe1:Below w.heap.size w w1:=(Below.refl _ _).grown hgr1 (Nat.le_refl _) (fun g hg => by cases hg)
 clear hgr1
 go_loopw [7,8,9] (fun v vk vi wr => ∃ (k i:Nat) (E:List It),vk = .int .i64 k ∧ vi = .int .i64 i ∧ k ≤ ord.length ∧ i ≤ lv.length + 1 ∧ Hid (E ++ mrg (leafIts k (lw.drop k)) (pkgs i (lv.drop i)) = T) ∧ E.length ≤ 2000 ∧ Hid (wr.ownsRow w.heap.size 273 3 v E.length (flatV E)) ∧ Below w.heap.size w wr) (fun _ _ i _ => lv.length + 1 - (intOf i).toNat)
 case atStart => exact ⟨0,0,[],rfl,rfl,by omega,by omega,hide (by rw [HT.out];rfl),by simp,hide hown1,hbe1⟩
 case round =>
  clear hown1 hbe1
  obtain ⟨k,i,E,rfl,rfl,hk,hi2,hE,hEl,hown,hbe⟩:=hrel
  by_cases hlt:i + 1 < lv.length
  · have dlt:decide ((i:Int) + 1 < (lv.length:Int)) = true:=decide_eq_true (by omega)
    obtain ⟨a,ha⟩:∃ a,lv[i]? = some a:=⟨lv[i]'(by omega),by simp⟩
    obtain ⟨b,hb⟩:∃ b,lv[i + 1]? = some b:=⟨lv[i + 1]'(by omega),by simp⟩
    obtain ⟨bv,ov,hVe,hbv,ca0,_,_⟩:=HV.out.at_ ha
    subst hVe
    obtain ⟨bv2,ov2,hVe2,hbv2,cb0,_,_⟩:=HV.out.at_ hb
    simp only [Option.some.injEq,Addr.mk.injEq,and_true] at hVe2
    obtain ⟨rfl,rfl⟩:=hVe2
    have c1:=(hbe.cell (p:=⟨bv,ov + i * 3,none⟩) hbv).trans ca0
    have c2:=(hbe.cell (p:=⟨bv,ov + (i + 1) * 3,none⟩) hbv).trans cb0
    have w1:=HW.out.2.2 a (List.mem_of_getElem? ha)
    have w2:=HW.out.2.2 b (List.mem_of_getElem? hb)
    have hpd:=pkgs_drop ha hb
    obtain ⟨W,hWe⟩:∃ W,W = a.w + b.w:=⟨_,rfl⟩
    have hWI:(a.w:Int) + (b.w:Int) = (W:Int):=by omega
    have hWb:W ≤ 2305843009213693952:=by omega
    have hn:=hE.out
    rw [hpd,← hWe] at hn
    have HN:=hide hn
    clear ca0 cb0 ha hb hpd hWe hn hE
    go_wp2_with fail
    go_region
    go_wp2_with fail
    go_loopw [7,8] (fun v vk wr => ∃ (k:Nat) (E:List It),vk = .int .i64 k ∧ k ≤ ord.length ∧ Hid (E ++ mrg (leafIts k (lw.drop k)) (⟨W,-1,i⟩ :: pkgs (i + 2) (lv.drop (i + 2))) = T) ∧ E.length ≤ 2000 ∧ Hid (wr.ownsRow w.heap.size 273 3 v E.length (flatV E)) ∧ Below w.heap.size w wr) (fun _ k _ => ord.length - (intOf k).toNat)
    case atStart => exact ⟨k,E,rfl,hk,HN,hEl,hown,below_drewN hbe _⟩
    case round =>
     clear hown hbe HN hEl
     obtain ⟨k,E,rfl,hk,hE,hEl,hown,hbe⟩:=hrel
     have hsz:=hbe.size
     have hEt:E.length ≤ 1100:=by
      have h1:=congrArg List.length hE.out
      rw [List.length_append,HTl.out] at h1;omega
     have fin:∀ (v':Value) (w2:World),(k < ord.length → ∃ x,lw[k]? = some x ∧ ¬ x ≤ W) → (E ++ [(⟨W,-1,i⟩:It)]) ++ mrg (leafIts k (lw.drop k)) (pkgs (i + 2) (lv.drop (i + 2))) = T:=by
      intro v' w2 hstop
      have h:=hE.out
      rw [← h,List.append_assoc]
      congr 1
      by_cases hkl:k < ord.length
      · obtain ⟨x,hx,hgt⟩:=hstop hkl
        rw [leafIts_drop hx,mrg_gt hgt];rfl
      · rw [List.drop_eq_nil_of_le (by have:=HLl.out;omega),leafIts,mrg,mrg];rfl
     have HFin:=hide fin
     clear fin
     by_cases hkl:k < ord.length
     · have dkl:decide ((k:Int) < (ord.length:Int)) = true:=decide_eq_true (by omega)
       obtain ⟨bo,oo,ba,oa,l,x,hOe,hAe,hbo,hba,hl,hx,hlx,co0,ca0⟩:=HLeaf.out k hkl
       subst hOe hAe
       have c3:=(hbe.cell (p:=⟨bo,oo + k,none⟩) hbo).trans co0
       have c4:=(hbe.cell (p:=⟨ba,oa + l,none⟩) hba).trans ca0
       clear co0 ca0
       by_cases hxW:x ≤ W
       · have dx:decide ((x:Int) ≤ (W:Int)) = true:=decide_eq_true (by omega)
         have hn:=hE.out
         rw [leafIts_drop hlx.out,mrg_le (show (⟨x,k,0⟩:It).w ≤ (⟨W,-1,i⟩:It).w from hxW)] at hn
         have HN:=hide hn
         clear hn hE
         go_wp2_with (at_builtin;refine wpList_append_own _ rfl (.tmp 52) (.tmp 62) 211 rfl w.heap.size 273 i0 _ 3 24 Tryz.underlying211 hi hz0 hz1 hz2 rfl (by decide) _ _ _ rfl (hown.out.alloc _) ⟨wr.heap.size,0,none⟩ 1 1 [.int .u64 x,.int .i64 k,.int .i64 0] rfl rfl (cells_new _ _ _) (by intro u hu;simp at hu;rcases hu with rfl | rfl | rfl <;> rfl) (by unfold maxLen;omega) (by omega) (by simp;omega) ?_;intro v' w2 hown2 hgr2 _)
         have hbe2:=((hbe.alloc hbe.size (.cells #[.int .u64 x,.int .i64 k,.int .i64 0] 273))).grown hgr2 (by simp;have:=hbe.size;omega) (fun g hg => ((hown.out.alloc (.cells #[.int .u64 x,.int .i64 k,.int .i64 0] 273)).lt g hg).1)
         go_roundw
         case rel => exact ⟨k + 1,E ++ [⟨x,k,0⟩],by go_num,by omega,hide (by have:=HN.out;simpa using this),by simp;omega,hide (by rw [flatV_append,List.length_append];exact hown2),hbe2⟩
         case measure => simp [intOf];omega
       · have dx:decide ((x:Int) ≤ (W:Int)) = false:=decide_eq_false (by omega)
         have hn:=HFin.out .nilIface w (fun _ => ⟨x,hlx.out,hxW⟩)
         have HN:=hide hn
         clear hn hE
         go_wp2_with (at_builtin;refine wpList_append_own _ rfl (.tmp 66) (.tmp 70) 211 rfl w.heap.size 273 i0 _ 3 24 Tryz.underlying211 hi hz0 hz1 hz2 rfl (by decide) _ _ _ rfl (hown.out.alloc _) ⟨wr.heap.size,0,none⟩ 1 1 [.int .u64 W,.int .i64 (-1),.int .i64 i] rfl rfl (cells_new _ _ _) (by intro u hu;simp at hu;rcases hu with rfl | rfl | rfl <;> rfl) (by unfold maxLen;omega) (by omega) (by simp;omega) ?_;intro v' w2 hown2 hgr2 _)
         have hbe2:=((hbe.alloc hbe.size (.cells #[.int .u64 W,.int .i64 (-1),.int .i64 i] 273))).grown hgr2 (by simp;have:=hbe.size;omega) (fun g hg => ((hown.out.alloc (.cells #[.int .u64 W,.int .i64 (-1),.int .i64 i] 273)).lt g hg).1)
         go_roundw
         case rel => exact ⟨k,i + 2,E ++ [⟨W,-1,i⟩],rfl,by go_num,by omega,by omega,HN,by simp;omega,hide (by rw [flatV_append,List.length_append];exact hown2),hbe2⟩
         case measure => simp [intOf];omega
     · have dkl:decide ((k:Int) < (ord.length:Int)) = false:=decide_eq_false (by omega)
       have hn:=HFin.out .nilIface w (fun h => absurd h hkl)
       have HN:=hide hn
       clear hn hE
       go_wp2_with (at_builtin;refine wpList_append_own _ rfl (.tmp 66) (.tmp 70) 211 rfl w.heap.size 273 i0 _ 3 24 Tryz.underlying211 hi hz0 hz1 hz2 rfl (by decide) _ _ _ rfl (hown.out.alloc _) ⟨wr.heap.size,0,none⟩ 1 1 [.int .u64 W,.int .i64 (-1),.int .i64 i] rfl rfl (cells_new _ _ _) (by intro u hu;simp at hu;rcases hu with rfl | rfl | rfl <;> rfl) (by unfold maxLen;omega) (by omega) (by simp;omega) ?_;intro v' w2 hown2 hgr2 _)
       have hbe2:=((hbe.alloc hbe.size (.cells #[.int .u64 W,.int .i64 (-1),.int .i64 i] 273))).grown hgr2 (by simp;have:=hbe.size;omega) (fun g hg => ((hown.out.alloc (.cells #[.int .u64 W,.int .i64 (-1),.int .i64 i] 273)).lt g hg).1)
       go_roundw
       case rel => exact ⟨k,i + 2,E ++ [⟨W,-1,i⟩],rfl,by go_num,by omega,by omega,HN,by simp;omega,hide (by rw [flatV_append,List.length_append];exact hown2),hbe2⟩
       case measure => simp [intOf];omega
  · have dlt:decide ((i:Int) + 1 < (lv.length:Int)) = false:=decide_eq_false (by omega)
    have hn:=hE.out
    rw [pkgs_end (by omega),mrg_nil] at hn
    have HN:=hide hn
    clear hn hE
    go_wp2_with fail
    go_loopw [7,8] (fun v vk wr => ∃ (k:Nat) (E:List It),vk = .int .i64 k ∧ k ≤ ord.length ∧ Hid (E ++ leafIts k (lw.drop k) = T) ∧ E.length ≤ 2000 ∧ Hid (wr.ownsRow w.heap.size 273 3 v E.length (flatV E)) ∧ Below w.heap.size w wr) (fun _ k _ => ord.length - (intOf k).toNat)
    case atStart => exact ⟨k,E,rfl,hk,HN,hEl,hown,hbe⟩
    case round =>
     clear hown hbe HN hEl
     obtain ⟨k,E,rfl,hk,hE,hEl,hown,hbe⟩:=hrel
     have hsz:=hbe.size
     by_cases hkl:k < ord.length
     · have dkl:decide ((k:Int) < (ord.length:Int)) = true:=decide_eq_true (by omega)
       obtain ⟨bo,oo,ba,oa,l,x,hOe,hAe,hbo,hba,hl,hx,hlx,co0,ca0⟩:=HLeaf.out k hkl
       subst hOe hAe
       have c3:=(hbe.cell (p:=⟨bo,oo + k,none⟩) hbo).trans co0
       have c4:=(hbe.cell (p:=⟨ba,oa + l,none⟩) hba).trans ca0
       have hEt:E.length ≤ 1100:=by
        have h1:=congrArg List.length hE.out
        rw [List.length_append,HTl.out] at h1;omega
       have hn:=hE.out
       rw [leafIts_drop hlx.out] at hn
       have HN:=hide hn
       clear co0 ca0 hn hE
       go_wp2_with (at_builtin;refine wpList_append_own _ rfl (.tmp 78) (.tmp 88) 211 rfl w.heap.size 273 i0 _ 3 24 Tryz.underlying211 hi hz0 hz1 hz2 rfl (by decide) _ _ _ rfl (hown.out.alloc _) ⟨wr.heap.size,0,none⟩ 1 1 [.int .u64 x,.int .i64 k,.int .i64 0] rfl rfl (cells_new _ _ _) (by intro u hu;simp at hu;rcases hu with rfl | rfl | rfl <;> rfl) (by unfold maxLen;omega) (by omega) (by simp;omega) ?_;intro v' w2 hown2 hgr2 _)
       have hbe2:=((hbe.alloc hbe.size (.cells #[.int .u64 x,.int .i64 k,.int .i64 0] 273))).grown hgr2 (by simp;have:=hbe.size;omega) (fun g hg => ((hown.out.alloc (.cells #[.int .u64 x,.int .i64 k,.int .i64 0] 273)).lt g hg).1)
       go_roundw
       case rel => exact ⟨k + 1,E ++ [⟨x,k,0⟩],by go_num,by omega,hide (by have:=HN.out;simpa using this),by simp;omega,hide (by rw [flatV_append,List.length_append];exact hown2),hbe2⟩
       case measure => simp [intOf];omega
     · have dkl:decide ((k:Int) < (ord.length:Int)) = false:=decide_eq_false (by omega)
       have hfin:E = T:=by
        have:=hE.out
        rwa [List.drop_eq_nil_of_le (by have:=HLl.out;omega),leafIts,List.append_nil] at this
       subst hfin
       have hf:=own_form3 hown.out
       have HO3:=hide hown.out
       obtain ⟨A',c',rfl⟩:=hf
       go_wp2_with fail
       go_ret
       exact ⟨A',c',rfl,HO3.out,hbe⟩
end Go.Proofs.YtcfnjpokfodmoaaGreatDoor
