/- Lemmas for the row: OrdF, OrdG. -/
import Derived.Test.YtcfnjpokfodmoaaGreatDoorM29
import Derived.BigRegion
import Derived.Laws.EntriesVeiled
import Derived.Shelf.SlSortCmp.QuietGrown
set_option maxRecDepth 100000
set_option linter.unusedVariables false
namespace Go.Proofs.YtcfnjpokfodmoaaGreatDoor
open Go.RowKit Go.Sort
theorem below_grow (w:World) (n:Nat) (os:Array Obj):RowKit.Below w.heap.size w (grow (w.drewN n) os):=by
 refine ⟨rfl,rfl,rfl,by simp [grow],fun k hk => ?_⟩
 unfold grow
 simp only
 rw [Array.getElem?_append_left (by simpa using hk)]
 rfl
theorem threeD_new (w:World) (t0 t1 t2:TypeId) (c0 c1 c2:Array Value) :
 Bk (((w.alloc (.cells c0 t0)).alloc (.cells c1 t1)).alloc (.cells c2 t2)) w.heap.size t0 c0 ∧
 Bk (((w.alloc (.cells c0 t0)).alloc (.cells c1 t1)).alloc (.cells c2 t2)) (w.heap.size + 1) t1 c1 ∧
 Bk (((w.alloc (.cells c0 t0)).alloc (.cells c1 t1)).alloc (.cells c2 t2)) (w.heap.size + 1 + 1) t2 c2 ∧
 Below w.heap.size w (((w.alloc (.cells c0 t0)).alloc (.cells c1 t1)).alloc (.cells c2 t2)) ∧ (((w.alloc (.cells c0 t0)).alloc (.cells c1 t1)).alloc (.cells c2 t2)).heap.size = w.heap.size + 1 + 1 + 1:=by
 have h0:=Bk.new w t0 c0
 have h1:=Bk.newAt (w:=w.alloc (.cells c0 t0)) (g:=w.heap.size + 1) (t:=t1) (cs:=c1) (by simp)
 have h2:=Bk.newAt (w:=(w.alloc (.cells c0 t0)).alloc (.cells c1 t1)) (g:=w.heap.size + 1 + 1) (t:=t2) (cs:=c2) (by simp)
 exact ⟨(h0.alloc _).alloc _,h1.alloc _,h2,(((Below.refl _ _).alloc (Nat.le_refl _) _).alloc (by simp) _).alloc (by simp;omega) _,by simp⟩
structure DW (w W:World) (b n c k:Nat) (rank:List Nat) (be:Nat) (es:List Nat):Prop where
 cap:CapD W w.heap.size (w.heap.size + 1) b n c rank k
 fn:W.cell? ⟨w.heap.size + 1 + 1,0,none⟩ = some (.func (.func 119) #[] #[.pointer (some ⟨w.heap.size + 1,0,none⟩),.pointer (some ⟨w.heap.size,0,none⟩)])
 es:Hi W be es
 sz:w.heap.size + 1 + 1 + 1 ≤ W.heap.size
 fr:Fr (fun x => x = be) w W
theorem DW.next {w W W':World} {b n c k:Nat} {rank:List Nat} {be:Nat} {es es':List Nat} (h:DW w W b n c k rank be es) (hf:Fr (fun x => x = be) W W') (hE:Hi W' be es') (hbe:be < w.heap.size) (hne:b ≠ be):DW w W' b n c k rank be es' where
 cap:=⟨hf.cell (p:=⟨w.heap.size,0,none⟩) (by show ¬ w.heap.size = be;omega) h.cap.r,hf.cell (p:=⟨w.heap.size + 1,0,none⟩) (by show ¬ w.heap.size + 1 = be;omega) h.cap.k,fun i hi => hf.cell (p:=⟨b,i,none⟩) hne (h.cap.rows i hi)⟩
 fn:=hf.cell (p:=⟨w.heap.size + 1 + 1,0,none⟩) (by show ¬ w.heap.size + 1 + 1 = be;omega) h.fn
 es:=hE
 sz:=Nat.le_trans h.sz hf.size
 fr:=h.fr.trans hf (fun g hg => .inl hg)
theorem DW.below {w W W':World} {b n c k:Nat} {rank:List Nat} {be B:Nat} {es:List Nat} (h:DW w W b n c k rank be es) (hf:Below B W W') (hB:w.heap.size + 1 + 1 + 1 ≤ B) (hbe:be < w.heap.size) (hb:b < w.heap.size):DW w W' b n c k rank be es where
 cap:=⟨(hf.cell (p:=⟨w.heap.size,0,none⟩) (by show w.heap.size < B;omega)).trans h.cap.r,(hf.cell (p:=⟨w.heap.size + 1,0,none⟩) (by show w.heap.size + 1 < B;omega)).trans h.cap.k,fun i hi => (hf.cell (p:=⟨b,i,none⟩) (by show b < B;omega)).trans (h.cap.rows i hi)⟩
 fn:=(hf.cell (p:=⟨w.heap.size + 1 + 1,0,none⟩) (by show w.heap.size + 1 + 1 < B;omega)).trans h.fn
 es:=fun i x hx => ⟨(hf.cell (p:=⟨be,i,none⟩) (by show be < B;omega)).trans (h.es i x hx).1,(hf.frozen (p:=⟨be,i,none⟩) (by show be < B;omega)).trans (h.es i x hx).2⟩
 sz:=Nat.le_trans h.sz hf.size
 fr:=⟨hf.os.trans h.fr.os,hf.tape.trans h.fr.tape,hf.output.trans h.fr.output,Nat.le_trans h.fr.size hf.size,fun g hg hS => (hf.block g (by omega)).trans (h.fr.block g hg hS)⟩
theorem outD_le (lt:Nat → Nat → Bool) (es:List Nat) (n:Nat):∀ j a,(outD lt es n j).getD a 0 ≤ j:=by
 intro j
 induction j with
 | zero =>
   intro a
   unfold outD
   rw [List.getD_eq_getElem?_getD,List.getElem?_replicate]
   split <;> simp
 | succ j ih =>
   intro a
   unfold outD
   rw [List.getD_eq_getElem?_getD,List.getElem?_set]
   split
   · split
     · have:=ih (es.getD j 0)
       simp only [Option.getD_some]
       split <;> omega
     · simp
   · have:=ih a
     rw [List.getD_eq_getElem?_getD] at this
     omega
set_option maxHeartbeats 4000000 in
theorem doubled_any (be ce b c n k:Nat) (s es rank:List Nat) (w:World) (hok:RankOK s k rank) (hs:s.length = n) (h1:1 ≤ n) (hn:n ≤ 1000000) (hk1:1 ≤ k) (hk:k ≤ 1000000) (hp:es.Perm (List.range n)) (hE:Hi w be es) (hR:Bk w b 3 (rank.map fun x:Nat => Value.int .i64 x).toArray) (hbe:be < w.heap.size) (hne:b ≠ be) :
 Calls Tryz.prog 80 #[.slice (some ⟨be,0,none⟩) n ce,.slice (some ⟨b,0,none⟩) n c,.int .i64 k] w fun e w' => ∃ (g:Nat) (es' rk:List Nat),e = .returned (.slice (some ⟨g,0,none⟩) n n) ∧ w.heap.size ≤ g ∧ es'.Perm (List.range n) ∧ Hi w' be es' ∧ Bk w' g 3 (rk.map fun x:Nat => Value.int .i64 x).toArray ∧ RankOK s (k + k) rk ∧
  (∀ i j,i < j → j < n → lexL (pre s (k + k) (es'.getD j 0)) (pre s (k + k) (es'.getD i 0)) = false) ∧ Fr (fun x => x = be) w w':=by
 have hb:=hR.lt
 have hrl:rank.length = n:=hok.len.trans hs
 have hr:∀ a,a < n → rank.getD a 0 < n:=fun a ha => by have:=hok.lt a (by omega);omega
 have hel:es.length = n:=by rw [hp.length_eq,List.length_range]
 have hes:∀ x ∈ es,x < n:=fun x hx => List.mem_range.1 (hp.mem_iff.1 hx)
 have hrow:∀ i,i < n → w.cell? ⟨b,i,none⟩ = some (.int .i64 (rank.getD i 0:Nat)):=fun i hi => by
  rw [hR.cell i,List.getElem?_toArray,List.getElem?_map,List.getElem?_eq_getElem (by omega:i < rank.length),List.getD_eq_getElem?_getD,List.getElem?_eq_getElem (by omega:i < rank.length)];rfl
 have hmf:∀ (fn:Fn) (first cap:Array Value) (w:World),(Instr.makeFunc fn first cap).run Tryz.prog w = .ok (.func fn first cap) w:=fun _ _ _ _ => rfl
 have hmk:∀ W:World,(Instr.makeSlice 74 (.int .i64 n) (.int .i64 n)).run Tryz.prog W = .ok (.slice (some ⟨W.heap.size,0,none⟩) n n) (W.alloc (.cells (madeCells #[.int .i64 0] n) 3)):=fun W => run_make_row' (P:=Tryz.prog) 74 3 (.int .i64 0) 8 Tryz.underlying74 info_int rfl .i64 .i64 n (by omega) (by omega) W
 obtain ⟨e0,e1,e2,eb,esz⟩:=threeD_new w 74 3 96 #[.slice (some ⟨b,0,none⟩) n c] #[.int .i64 k] #[.func (.func 119) #[] #[.pointer (some ⟨w.heap.size + 1,0,none⟩),.pointer (some ⟨w.heap.size,0,none⟩)]]
 have hd:DW w (((w.alloc (.cells #[.slice (some ⟨b,0,none⟩) n c] 74)).alloc (.cells #[.int .i64 k] 3)).alloc (.cells #[.func (.func 119) #[] #[.pointer (some ⟨w.heap.size + 1,0,none⟩),.pointer (some ⟨w.heap.size,0,none⟩)]] 96)) b n c k rank be es:=by
  refine ⟨⟨?_, ?_,fun i hi => (eb.cell (p:=⟨b,i,none⟩) hb).trans (hrow i hi)⟩, ?_,fun i x hx => ?_,Nat.le_of_eq esz.symm,Fr.below eb _⟩
  · rw [e0.cell];rfl
  · rw [e1.cell];rfl
  · rw [e2.cell];rfl
  · have:=hE i x hx
    exact ⟨(eb.cell (p:=⟨be,i,none⟩) hbe).trans this.1,(eb.frozen (p:=⟨be,i,none⟩) hbe).trans this.2⟩
 have HDW:=hide hd
 have HR:=hide hr
 have HES:=hide hes
 have HOK:=hide hok
 have HP:=hide hp
 clear hrow hr hes hE hok hp hR hd e0 e1 e2 eb esz
 go_enter Tryz.func80,Tryz.ntmps80
 go_wp2_with (go_at_call 123;go_loud (refine (sortD_any _ _ _ b c n k be ce rank es _ HDW.out.cap HDW.out.fn hrl (by omega) (by omega) HR.out h1 HES.out hel HDW.out.es (Nat.lt_of_lt_of_le hbe HDW.out.fr.size) (by omega) (by omega) (by omega) hne).mono ?_;rintro e w1 ⟨rfl,⟨es',hp',hso,hE'⟩,hf1⟩;have HD1:=hide (HDW.out.next hf1 hE' hbe hne);have hcr:=HD1.out.cap.r;have HSO:=hide hso;have HP1:=hide (hp'.trans HP.out);clear hp' hso hE' hf1))
 have hz0:madeCells #[.int .i64 0] n = ((outD (lessD rank k) es' n 0).map fun x:Nat => Value.int .i64 x).toArray:=by
  apply Array.ext
  · simp [size_madeCells,outD]
  · intro i h1 h2;simp [madeCells,Nat.mod_one,outD]
 have hsz1:w.heap.size + 1 + 1 + 1 ≤ w1.heap.size:=HD1.out.sz
 have hel':es'.length = n:=by rw [HP1.out.length_eq,List.length_range]
 have HES1:=hide (fun i (hi:i < n) => (show es'.getD i 0 < n by
  rw [List.getD_eq_getElem?_getD,List.getElem?_eq_getElem (by omega:i < es'.length)]
  exact List.mem_range.1 (HP1.out.mem_iff.1 (List.getElem_mem _))))
 have HZ0:=hide hz0
 clear hz0 hcr HDW HES HP
 go_loopw [10] (fun vi wr => ∃ j:Nat,vi = .int .i64 ((j + 1:Nat):Int) ∧ j + 1 ≤ n ∧ Hid (Bk wr w1.heap.size 3 ((outD (lessD rank k) es' n j).map fun x:Nat => Value.int .i64 x).toArray) ∧ Hid (Below w1.heap.size w1 wr)) (fun vi _ => n - (intOf vi).toNat)
 case atStart => exact ⟨0,rfl,by omega,hide (by rw [← HZ0.out];exact Bk.new w1 _ _),hide ((Below.refl _ _).alloc (Nat.le_refl _) _)⟩
 case round =>
  clear HZ0 hmk
  obtain ⟨j,rfl,hj,HB,HE⟩:=hrel
  by_cases hlt:j + 1 < n
  · have HDr:=hide (HD1.out.below HE.out hsz1 hbe hb)
    have hcx:=(HDr.out.es (j + 1) (es'.getD (j + 1) 0) (by rw [List.getD_eq_getElem?_getD,List.getElem?_eq_getElem (by omega:j + 1 < es'.length)];rfl)).1
    have hcy:=(HDr.out.es j (es'.getD j 0) (by rw [List.getD_eq_getElem?_getD,List.getElem?_eq_getElem (by omega:j < es'.length)];rfl)).1
    have hx:=HES1.out (j + 1) hlt
    have hy:=HES1.out j (by omega)
    obtain ⟨x,hxe⟩:∃ x,x = es'.getD (j + 1) 0:=⟨_,rfl⟩
    obtain ⟨y,hye⟩:∃ y,y = es'.getD j 0:=⟨_,rfl⟩
    rw [← hxe] at hcx hx
    rw [← hye] at hcy hy
    have hol:=outD_length (lessD rank k) es' n j
    have hcv:wr.cell? ⟨w1.heap.size,y,none⟩ = some (.int .i64 ((outD (lessD rank k) es' n j).getD y 0:Nat)):=by
     rw [HB.out.cell y,List.getElem?_toArray,List.getElem?_map,List.getElem?_eq_getElem (by omega:y < (outD (lessD rank k) es' n j).length),List.getD_eq_getElem?_getD,List.getElem?_eq_getElem (by omega:y < (outD (lessD rank k) es' n j).length)];rfl
    have hcv2:∃ u,wr.cell? ⟨w1.heap.size,x,none⟩ = some u:=by
     rw [HB.out.cell x,List.getElem?_toArray,List.getElem?_map,List.getElem?_eq_getElem (by omega:x < (outD (lessD rank k) es' n j).length)];exact ⟨_,rfl⟩
    obtain ⟨u,hcu⟩:=hcv2
    have hfu:=HB.out.free x
    have hvle:=outD_le (lessD rank k) es' n j y
    obtain ⟨v,hv⟩:∃ v,v = (outD (lessD rank k) es' n j).getD y 0:=⟨_,rfl⟩
    rw [← hv] at hcv hvle
    have HXE:=hide hxe
    have HYE:=hide hye
    have HVE:=hide hv
    clear hxe hye hv hol
    go_wp2_with fail
    go_region
    obtain ⟨W5,hW5⟩:∃ W5,W5 = (wr.setCell ⟨w1.heap.size,x,none⟩ (.int .i64 v)).drew:=⟨_,rfl⟩
    rw [← hW5]
    have HB5:Hid (Bk W5 w1.heap.size 3 (((outD (lessD rank k) es' n j).set x v).map fun x:Nat => Value.int .i64 x).toArray):=hide (by
     have:=(HB.out.set_ x (.int .i64 (v:Nat))).drew
     rw [List.setIfInBounds_toArray,← List.map_set] at this
     rw [hW5];exact this)
    have HE5:=hide (show RowKit.Below w1.heap.size w1 W5 by rw [hW5];exact (HE.out.setCell (Nat.le_refl _) _).drew)
    have HD5:=hide (HD1.out.below HE5.out hsz1 hbe hb)
    have hw5:w1.heap.size < W5.heap.size:=HB5.out.lt
    have hw5b:w.heap.size + 1 + 1 + 1 ≤ W5.heap.size:=HD5.out.sz
    have hcx5:∀ n os,(grow (W5.drewN n) os).cell? ⟨be,j + 1,none⟩ = some (.int .i64 (x:Nat)):=cell_grown (by show be < W5.heap.size;omega) ((HE5.out.cell (p:=⟨be,j + 1,none⟩) (by show be < w1.heap.size;omega)).trans ((HE.out.cell (p:=⟨be,j + 1,none⟩) (by show be < w1.heap.size;omega)).symm.trans hcx))
    have hcy5:∀ n os,(grow (W5.drewN n) os).cell? ⟨be,j,none⟩ = some (.int .i64 (y:Nat)):=cell_grown (by show be < W5.heap.size;omega) ((HE5.out.cell (p:=⟨be,j,none⟩) (by show be < w1.heap.size;omega)).trans ((HE.out.cell (p:=⟨be,j,none⟩) (by show be < w1.heap.size;omega)).symm.trans hcy))
    have HL5:=hide (fun (m:Nat) (os:Array Obj) => (show _ from (let D:=HD5.out.below (below_grow W5 m os) hw5b hbe hb
     lessD_any w.heap.size (w.heap.size + 1) (w.heap.size + 1 + 1) b n c rank k y x (grow (W5.drewN m) os) D.cap D.fn hrl hn (by omega) hy hx HR.out)))
    have eg:∀ args w,(callFunc 120 args).run Tryz.prog w = .ok (.enter 120 args) w:=enters_of Tryz.func120 (by kernel_rfl) rfl
    have hzl:lessD rank k y x = decide (cmpD rank k y x < 0):=rfl
    obtain ⟨z,hz⟩:∃ z,z = cmpD rank k y x:=⟨_,rfl⟩
    rw [← hz] at HL5 hzl
    have HZL:=hide hzl
    have HW5:=hide hW5
    clear hcx hcy hcu hfu hcv hz hzl hW5
    by_cases hz0:z < 0
    · go_wp2_with fail
      have hmx:Tryz.prog.follows .mixedOrders = true:=by kernel_rfl
      have ra:IntKind.i64.wrap (j:Int) = j:=by rw [IntKind.wrap_i64];omega
      have rb:(j:Int) < (n:Int):=by omega
      have rc:(j:Int) + 1 < (n:Int):=by omega
      have rd:((j:Int) + 1).toNat = j + 1:=by omega
      have re:(0:Int) ≤ (j:Int) + 1:=by omega
      go_quiet_grown (first | (go_at_call 120;refine Calls.grown_of (HL5.out _ _)))
      dsimp only
      obtain ⟨W6,hW6⟩:∃ W6,W6 = grow (W5.drewN nq) osq:=⟨_,rfl⟩
      rw [← hW6]
      have hbg:=below_grow W5 nq osq
      rw [← hW6] at hbg
      have HB6:=hide (HB5.out.below hbg hw5)
      have hcx6:W6.cell? ⟨be,j + 1,none⟩ = some (.int .i64 (x:Nat)):=by rw [hW6];exact hcx5 nq osq
      have hlx:x < ((outD (lessD rank k) es' n j).set x v).length:=by rw [List.length_set,outD_length];exact hx
      have hcr6:W6.cell? ⟨w1.heap.size,x,none⟩ = some (.int .i64 (v:Nat)):=by
       rw [HB6.out.cell x,List.getElem?_toArray,List.getElem?_map,List.getElem?_set_self (by rw [outD_length];exact hx)];rfl
      have hfr6:=HB6.out.free x
      have HG6:=hide hbg
      clear hW6 hbg hlx hcx5 hcy5
      go_wp2_with fail
      go_roundw
      case rel =>
       refine ⟨j + 1,by go_num,by omega,hide ?_,hide ?_⟩
       · have:=HB6.out.set_ x (.int .i64 ((v:Int) + 1))
         rw [List.setIfInBounds_toArray] at this
         have e:outD (lessD rank k) es' n (j + 1) = ((outD (lessD rank k) es' n j).set x v).set x (v + 1):=by
          rw [outD,← HXE.out,← HYE.out,← HVE.out,HZL.out,List.set_set]
          simp [hz0]
         rw [e,List.map_set]
         exact this
       · exact (HE5.out.trans (HG6.out.mono (by omega))).setCell (Nat.le_refl _) _
      case measure => simp [intOf];omega
    · go_wp2_with fail
      have hmx:Tryz.prog.follows .mixedOrders = true:=by kernel_rfl
      have ra:IntKind.i64.wrap (j:Int) = j:=by rw [IntKind.wrap_i64];omega
      have rb:(j:Int) < (n:Int):=by omega
      have rc:(j:Int) + 1 < (n:Int):=by omega
      have rd:((j:Int) + 1).toNat = j + 1:=by omega
      have re:(0:Int) ≤ (j:Int) + 1:=by omega
      go_quiet_grown (first | (go_at_call 120;refine Calls.grown_of (HL5.out _ _)))
      go_wp2_with fail
      have hbg:=below_grow W5 nq osq
      go_roundw
      case rel =>
       refine ⟨j + 1,by go_num,by omega,hide ?_,hide ?_⟩
       · have e:outD (lessD rank k) es' n (j + 1) = (outD (lessD rank k) es' n j).set x v:=by
          rw [outD,← HXE.out,← HYE.out,← HVE.out,HZL.out]
          simp [show ¬ z < 0 by omega]
         rw [e]
         exact HB5.out.below hbg hw5
       · exact HE5.out.trans (hbg.mono (by omega))
      case measure => simp [intOf];omega
  · obtain rfl:n = j + 1:=by omega
    go_wp2_with fail
    go_ret
    obtain ⟨r1,r2⟩:=rank_two (es:=es') HOK.out hk1 (by rw [hs];exact HP1.out) (by rw [hs];exact HSO.out)
    rw [hs] at r1 r2
    exact ⟨w1.heap.size,es',_,rfl,by omega,HP1.out,(HD1.out.below HE.out hsz1 hbe hb).es,HB.out,r1,r2,(HD1.out.below HE.out hsz1 hbe hb).fr⟩
theorem Hi.of_bk {w:World} {g:Nat} {t:TypeId} {l:List Nat} (h:Bk w g t (l.map fun x:Nat => Value.int .i64 x).toArray):Hi w g l:=fun i x hx => ⟨by rw [h.cell i,List.getElem?_toArray,List.getElem?_map,hx];rfl,h.free i⟩
theorem iota_step (n k:Nat) (h:k < n):((List.range k ++ List.replicate (n - k) 0).set k k) = List.range (k + 1) ++ List.replicate (n - (k + 1)) 0:=by
 rw [List.set_append_right _ _ (by simp),List.length_range,Nat.sub_self,show n - k = (n - (k + 1)) + 1 by omega,List.replicate_succ,List.set_cons_zero,List.range_succ,List.append_assoc]
 rfl
set_option maxHeartbeats 2000000 in
theorem ends_any (b c n:Nat) (s rank:List Nat) (w:World) (hok:RankOK s 1 rank) (hs:s.length = n) (h1:1 ≤ n) (hn:n ≤ 1000000) (hR:Bk w b 3 (rank.map fun x:Nat => Value.int .i64 x).toArray) :
 Calls Tryz.prog 46 #[.slice (some ⟨b,0,none⟩) n c] w fun e w' => ∃ (E:Nat) (es:List Nat),e = .returned (.slice (some ⟨E,0,none⟩) n n) ∧ w.heap.size ≤ E ∧ E < w'.heap.size ∧ IsEnds s es ∧ Hi w' E es ∧ RowKit.Below w.heap.size w w':=by
 have hmk:∀ W:World,(Instr.makeSlice 74 (.int .i64 n) (.int .i64 n)).run Tryz.prog W = .ok (.slice (some ⟨W.heap.size,0,none⟩) n n) (W.alloc (.cells (madeCells #[.int .i64 0] n) 3)):=fun W => run_make_row' (P:=Tryz.prog) 74 3 (.int .i64 0) 8 Tryz.underlying74 info_int rfl .i64 .i64 n (by omega) (by omega) W
 have hz0:madeCells #[.int .i64 0] n = ((List.range 0 ++ List.replicate (n - 0) 0).map fun x:Nat => Value.int .i64 x).toArray:=by
  apply Array.ext
  · simp [size_madeCells]
  · intro i h1 h2;simp [madeCells,Nat.mod_one]
 have HZ0:=hide hz0
 have HOK:=hide hok
 have HR:=hide hR
 have hb:=hR.lt
 clear hz0 hok hR
 go_enter Tryz.func46,Tryz.ntmps46
 go_wp2_with fail
 go_loopw [11] (fun i wr => ∃ k:Nat,k ≤ n ∧ i = .int .i64 k ∧ Hid (Bk wr w.heap.size 3 ((List.range k ++ List.replicate (n - k) 0).map fun x:Nat => Value.int .i64 x).toArray) ∧ Hid (RowKit.Below w.heap.size w wr)) (fun i _ => n - (intOf i).toNat)
 case atStart => exact ⟨0,by omega,rfl,hide (by rw [← HZ0.out];exact Bk.new w _ _),hide ((Below.refl _ _).alloc (Nat.le_refl _) _)⟩
 case round =>
  clear HZ0 hmk
  obtain ⟨k,hk,rfl,HB,HE⟩:=hrel
  by_cases hlt:k < n
  · have hcw:∃ u,wr.cell? ⟨w.heap.size,k,none⟩ = some u:=by
     rw [HB.out.cell k,List.getElem?_toArray]
     have hl:k < ((List.range k ++ List.replicate (n - k) 0).map fun x:Nat => Value.int .i64 x).length:=by simp;omega
     rw [List.getElem?_eq_getElem hl];exact ⟨_,rfl⟩
    obtain ⟨u,hcu⟩:=hcw
    have hfu:=HB.out.free k
    go_wp2_with fail
    go_roundw
    case rel =>
     refine ⟨k + 1,by omega,by go_num,hide ?_,hide (HE.out.setCell (Nat.le_refl _) _)⟩
     have:=HB.out.set_ k (.int .i64 (k:Nat))
     rw [List.setIfInBounds_toArray,← List.map_set,iota_step n k hlt] at this
     exact this
    case measure => simp [intOf];omega
  · obtain rfl:k = n:=by omega
    have HF:=hide (show Bk wr w.heap.size 3 ((List.range k).map fun x:Nat => Value.int .i64 x).toArray by have:=HB.out;rwa [Nat.sub_self,List.replicate_zero,List.append_nil] at this)
    clear HB
    go_wp2_with fail
    go_loopw [0,5] (fun v0 v5 wx => ∃ (q g c1:Nat) (es rk:List Nat),1 ≤ q ∧ q ≤ 2 * k ∧ v5 = .int .i64 q ∧ v0 = .slice (some ⟨g,0,none⟩) k c1 ∧ g ≠ w.heap.size ∧ Hid (Bk wx g 3 (rk.map fun x:Nat => Value.int .i64 x).toArray) ∧ Hid (RankOK s q rk) ∧ Hid (es.Perm (List.range k)) ∧ Hi wx w.heap.size es ∧ Hid (q = 1 ∨ ∀ i j,i < j → j < k → lexL (pre s q (es.getD j 0)) (pre s q (es.getD i 0)) = false) ∧ Hid (RowKit.Below w.heap.size w wx) ∧ w.heap.size < wx.heap.size) (fun _ v5 _ => k + 1 - (intOf v5).toNat)
    case atStart => exact ⟨1,b,c,List.range k,rank,by omega,by omega,rfl,rfl,by omega,hide (HR.out.below HE.out hb),HOK,hide (.refl _),Hi.of_bk HF.out,hide (.inl rfl),HE,HF.out.lt⟩
    case round =>
     obtain ⟨q,g,c1,es,rk,hq1,hq2,rfl,rfl,hg,HBg,HRK,HP,hE,HS,HE2,hsz⟩:=hrel
     have HEh:=hide hE
     clear hE
     by_cases hle:q ≤ k
     · go_wp2_with (go_at_call 80;refine (doubled_any w.heap.size k g c1 k q s es rk wr HRK.out hs h1 hn hq1 (by omega) HP.out HEh.out HBg.out hsz hg).mono ?_;rintro e w2 ⟨g2,es2,rk2,rfl,hg2,hp2,hE2,hB2,hr2,hs2,hf2⟩;have HP2:=hide hp2;have HE22:=hide hE2;have HB2:=hide hB2;have HR2:=hide hr2;have HS2:=hide hs2;have HF2:=hide hf2;clear hp2 hE2 hB2 hr2 hs2 hf2)
       go_roundw
       case rel =>
        have:=HF2.out.size
        refine ⟨q + q,g2,k,es2,rk2,by omega,by omega,by go_num,rfl,by omega,HB2,HR2,HP2,HE22.out,hide (.inr HS2.out),hide (HE2.out.trans (HF2.out.toBelowB (fun g hg => by omega) (by omega))),by omega⟩
       case measure => simp [intOf];omega
     · have HRes:=hide (show IsEnds s es from by
        refine ends_of (m:=q) (by rw [hs];exact HP.out) ?_ (by omega)
        rw [hs]
        rcases HS.out with e | e
        · omega
        · exact e)
       go_wp2_with fail
       go_ret
       exact ⟨w.heap.size,es,rfl,Nat.le_refl _,hsz,HRes.out,HEh.out,HE2.out⟩
end Go.Proofs.YtcfnjpokfodmoaaGreatDoor
