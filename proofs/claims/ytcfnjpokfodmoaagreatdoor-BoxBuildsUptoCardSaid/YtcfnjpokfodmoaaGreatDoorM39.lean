/- Lemmas for the row: RefWrite. -/
import Derived.Test.YtcfnjpokfodmoaaGreatDoorM03
import Derived.Test.YtcfnjpokfodmoaaGreatDoorM04
import Derived.Deep.RegionWith
set_option maxRecDepth 100000
set_option linter.unusedVariables false
namespace Go.Proofs.YtcfnjpokfodmoaaGreatDoor
open Go.RowKit
theorem keep_new {w:World} {p:Addr} {v:Value} (h:w.cell? p = some v) (X:Obj):(w.alloc X).cell? p = some v:=(World.cell?_alloc_lt w X _ (World.block_lt_of_cell? w _ h)).trans h
theorem keep_call {w w1:World} {p:Addr} {v:Value} (hb:Below w.heap.size w w1) (h:w.cell? p = some v):w1.cell? p = some v:=(hb.cell (World.block_lt_of_cell? w _ h)).trans h
theorem keep_set {w:World} {p q:Addr} {v u:Value} (h:w.cell? p = some v) (hne:p.block ≠ q.block):(w.setCell q u).cell? p = some v:=(World.cell?_setCell_other w q p u (fun e => hne (by rw [e]))).trans h
set_option maxHeartbeats 4000000 in
theorem refWrite_any (A As:Option Addr) (ls xs:List Int) (c cs:Nat) (s:ByteArray) (n:Int) (w:World) (h:Rd w w.heap.size A (ls.map (.int .i64))) (hxs:Rd w w.heap.size As (xs.map (.int .u64))) (hlen:ls.length ≤ 9223372036854775807) (hxl:xs.length ≤ 9223372036854775807)
 (hxr:∀ x ∈ xs,U64 x) (hn:I64 n) (hs:s.size ≤ 9223372036854775807) :
 Calls Tryz.prog 110 #[bstr s n,.slice A ls.length c,.slice As xs.length cs] w (WriteP (writeR ls s n xs) s n w):=by
 have H:=hide h
 have HX:=hide hxs
 have HXr:=hide hxr
 clear h hxs hxr
 have op:∀ W,Below w.heap.size w W → Calls Tryz.prog 158 #[.slice A ls.length c] W (CodesP ls W):=fun W hW => refCodes_any A ls c W ((H.out.below hW).more hW.size) hlen
 have HO:=hide op
 clear op
 by_cases hr:rightB s n = true
 · have hz:chkB s n = 0:=by simp [chkB,hr]
   have hR:=rightB_n hr
   obtain ⟨n,rfl⟩:=Int.eq_ofNat_of_zero_le hR.1
   have hb:n ≤ 1048576:=by omega
   have hsz:s.size = (n + 7) / 8:=by omega
   have HSz:=hide hsz
   have HR:=hide hr
   clear hsz hr hR
   by_cases hok:okL ls = true
   · have HK:=hide hok
     have h512:=okL_len hok
     obtain ⟨R,hRe⟩:∃ R,R = writeR ls s n xs:=⟨_,rfl⟩
     have hRw:R = writeL ls xs (bitsL s n):=by rw [hRe];unfold writeR;rw [if_pos HR.out,if_pos HK.out];rfl
     rw [← hRe]
     have HRw:=hide hRw
     have e1:codesL ls = tab ls.length (fun j => (codeN ls j:Nat)):=by simp [codesL,hok]
     have e2:okW ls = 0:=by simp [okW,hok]
     have cd:∀ W,Below w.heap.size w W → Calls Tryz.prog 158 #[.slice A ls.length c] W fun e w' => ∃ A' c',e = .returned (.tuple #[.slice A' ls.length c',.int .i64 0]) ∧ Rd w' w'.heap.size A' ((tab ls.length (fun j => (codeN ls j:Nat))).map (.int .u64)) ∧ Below W.heap.size W w':=fun W hW => by
      refine (HO.out W hW).mono ?_
      rintro e w' ⟨A',c',rfl,hrd,hb⟩
      rw [e1] at hrd
      exact ⟨A',c',by rw [e1,e2,tab_length],hrd,hb⟩
     have HCd:=hide cd
     clear hok hRe hRw e1 e2 cd HO
     go_enter Tryz.func110,Tryz.ntmps110
     go_wp2_with (first
      | (go_at_call 38;refine (refCheck_any s n _ hn hs).mono ?_;rintro e w1 ⟨rfl,hb1⟩;rw [hz];have hbe1:Below w.heap.size w w1:=(((Below.refl _ _).alloc (Nat.le_refl _) _).alloc (by simp) _).trans (hb1.mono (by simp;omega));have kb:=((Bk.new w 27 #[.string s,.int .i64 n]).alloc (.cells #[.string ⟨#[]⟩,.int .i64 0] 27)).keep hb1;have kr:=(Bk.new1 w (.cells #[.string s,.int .i64 n] 27) 27 #[.string ⟨#[]⟩,.int .i64 0]).keep hb1)
      | (go_at_call 158;refine (Calls.mono (HCd.out _ hbe1) ?_);rintro e w2 ⟨A',c',rfl,hrd,hb2⟩;have hbe2:Below w.heap.size w w2:=hbe1.trans (hb2.mono hbe1.size);have kb2:=kb.keep hb2;have kr2:=kr.keep hb2;have HRd:=hide hrd;obtain ⟨q0,q1⟩:=two_cells kb2;have hbz2:=kr2.lt;clear hrd))
     clear kb kr q0 q1 hb1 hb2
     have HN:=hide (Bk.new w2 27 #[.string s,.int .i64 n])
     go_loopw [31] (fun i wr => ∃ (k:Nat) (sx:ByteArray) (nx:Nat),k ≤ xs.length ∧ i = .int .i64 k ∧ Bk wr w2.heap.size 27 #[.string sx,.int .i64 nx] ∧ Hid (∃ l,Bs sx nx l ∧ R = writeL ls (xs.drop k) l) ∧ Below w2.heap.size w2 wr) (fun i _ => xs.length - (intOf i).toNat)
     case atStart => exact ⟨0,s,n,by omega,rfl,HN.out,⟨bitsL s n,Bs.of_right HR.out,by rw [List.drop_zero];exact HRw.out⟩,(Below.refl _ _).alloc (Nat.le_refl _) _⟩
     case round =>
      clear HN
      obtain ⟨k,sx,nx,hk,rfl,kx,hRk,hbe⟩:=hrel
      obtain ⟨l,hbs,hRd⟩:=hRk.out
      have hnx:nx = l.length:=by have:=hbs.2.1;omega
      have hll:=hbs.len
      have hnb:nx ≤ 1048576:=by omega
      have HNx:=hide hnx
      clear hnx hll
      have HBs:=hide hbs
      obtain ⟨q0,q1⟩:=two_cells (kb2.below hbe (by omega))
      obtain ⟨v0,v1⟩:=two_cells kx
      have z0:=kx.free 0
      have z1:=kx.free 1
      have krk:=kr2.below hbe (by omega)
      have kbr:=kb2.below hbe (show w.heap.size < w2.heap.size by omega)
      obtain ⟨r0,r1⟩:=two_cells krk
      have y0:=krk.free 0
      have y1:=krk.free 1
      have hzw:=kx.lt
      have hbew:=hbe2.trans (hbe.mono (by omega))
      by_cases hlt:k < xs.length
      · obtain ⟨b,o,x,hAs,hbb,hx,hc0⟩:=HX.out.int hlt
        subst hAs
        obtain ⟨u1,u2⟩:=HXr.out x (List.mem_of_getElem? hx)
        obtain ⟨x,rfl⟩:=Int.eq_ofNat_of_zero_le u1
        have hc:=(hbew.cell (p:=⟨b,o + k,none⟩) hbb).trans hc0
        rw [drop_cons_of hx,writeL,Int.toNat_natCast] at hRd
        have hHX:=hide hx
        by_cases g1:ls.length ≤ x
        · have hst:stepW ls x l = 1:=by unfold stepW;rw [if_pos g1]
          rw [if_neg (by rw [hst];decide),hst] at hRd
          have HRd:=hide hRd
          clear hRd hx hc0 hst hbs hRk
          go_wp2_with fail
          obtain ⟨t0,t1⟩:=two_cells ((krk.set_ 0 (.string s)).set_ 1 (.int .i64 n))
          refine bodyPost_ret (v:=.tuple #[bstr s n,.int .i64 1]) (by simp [results,Tryz.results110,go_sem,t0,t1]) rfl ?_
          exact WriteP.same HRd.out (by omega) ((hbew.setCell (by simp) _).setCell (by simp) _)
        · obtain ⟨z,hzx⟩:∃ z,ls[x]? = some z:=⟨ls[x],List.getElem?_eq_getElem (by omega)⟩
          have hzr:=okL_range HK.out hzx
          obtain ⟨z,rfl⟩:=Int.eq_ofNat_of_zero_le hzr.1
          have hzd:ls.getD x 0 = z:=by rw [List.getD_eq_getElem?_getD,hzx];rfl
          obtain ⟨b2,o2,z',hA,hbb2,hzx',hcz0⟩:=H.out.int (show x < ls.length by omega)
          rw [hzx] at hzx';cases hzx'
          subst hA
          have hcz:=(hbew.cell (p:=⟨b2,o2 + x,none⟩) hbb2).trans hcz0
          have g1':x < ls.length:=by omega
          have HZ:=hide hzx
          have HZd:=hide hzd
          by_cases g2:z = 0
          · have hst:stepW ls x l = 3:=by unfold stepW;rw [if_neg g1,if_pos (by rw [hzd,g2];rfl)]
            rw [if_neg (by rw [hst];decide),hst] at hRd
            have HRd:=hide hRd
            subst g2
            clear hRd hx hc0 hst hzx hzd hcz0 hbs hRk
            go_wp2_with fail
            obtain ⟨t0,t1⟩:=two_cells ((krk.set_ 0 (.string s)).set_ 1 (.int .i64 n))
            refine bodyPost_ret (v:=.tuple #[bstr s n,.int .i64 3]) (by simp [results,Tryz.results110,go_sem,t0,t1]) rfl ?_
            exact WriteP.same HRd.out (by omega) ((hbew.setCell (by simp) _).setCell (by simp) _)
          · have hz0:((z:Int) == 0) = false:=by simp;omega
            obtain ⟨b3,o3,hA',hb3,hcv0⟩:=HRd.out x (.int .u64 (codeN ls x:Nat)) (by rw [List.getElem?_map,tab_get _ g1'];rfl)
            subst hA'
            have hcv:=(hbe.cell (p:=⟨b3,o3 + x,none⟩) hb3).trans hcv0
            have hVb:=codeN_lt ls x h512
            have hVp:=codeN_lt_pow HK.out HZ.out (by omega) (by omega)
            obtain ⟨V,hV⟩:∃ V,V = codeN ls x:=⟨_,rfl⟩
            rw [← hV] at hcv hVb hVp
            have hcode:codeB ls x = natBits V z:=by unfold codeB;rw [lenN_of HZ.out,Int.toNat_natCast,hV]
            have hst:stepW ls x l = if 1048576 - (z:Int) < (nx:Nat) then 8 else 0:=by unfold stepW;rw [if_neg g1,if_neg (by rw [hzd];omega),hzd,HNx.out]
            have hput:∀ W,Calls Tryz.prog 159 #[bstr sx nx,.int .u64 V,.int .i64 z] W (PutP sx nx V z W):=fun W => refPut_any sx nx V z W HBs.out.1 (by omega) hVp
            have HPut:=hide hput
            have HSt:=hide hst
            have HCode:=hide hcode
            have HRd2:=hide hRd
            clear hRd hx hc0 hst hzx hzd hcz0 hbs hRk hput hcode hV hcv0 hVp g2
            go_wp2_with fail
            have hb3w:b3 < wr.heap.size:=by omega
            have hb2w:b2 < wr.heap.size:=by have:=hbew.size;omega
            go_region_held3 (fun w' => w'.cell? ⟨w2.heap.size,0,none⟩ = some (.string sx) ∧ w'.cell? ⟨w2.heap.size,1,none⟩ = some (.int .i64 nx) ∧ w'.cell? ⟨b3,o3 + x,none⟩ = some (.int .u64 V) ∧ w'.cell? ⟨b2,o2 + x,none⟩ = some (.int .i64 z)) (first | go_keep | exact ⟨keep_call hb4 v0,keep_call hb4 v1,keep_call hb4 hcv,keep_call hb4 hcz⟩ | exact ⟨keep_call hb4 (keep_new v0 _),keep_call hb4 (keep_new v1 _),keep_call hb4 (keep_new hcv _),keep_call hb4 (keep_new hcz _)⟩ | exact ⟨keep_new (keep_call hb4 v0) _,keep_new (keep_call hb4 v1) _,keep_new (keep_call hb4 hcv) _,keep_new (keep_call hb4 hcz) _⟩ | exact ⟨keep_set (q:=⟨wr.heap.size,1,none⟩) (keep_set (q:=⟨wr.heap.size,0,none⟩) (keep_call hb4 (keep_new (w:=wr.drew) v0 _)) (Nat.ne_of_lt hzw)) (Nat.ne_of_lt hzw),keep_set (q:=⟨wr.heap.size,1,none⟩) (keep_set (q:=⟨wr.heap.size,0,none⟩) (keep_call hb4 (keep_new (w:=wr.drew) v1 _)) (Nat.ne_of_lt hzw)) (Nat.ne_of_lt hzw),keep_set (q:=⟨wr.heap.size,1,none⟩) (keep_set (q:=⟨wr.heap.size,0,none⟩) (keep_call hb4 (keep_new (w:=wr.drew) hcv _)) (Nat.ne_of_lt hb3w)) (Nat.ne_of_lt hb3w),keep_set (q:=⟨wr.heap.size,1,none⟩) (keep_set (q:=⟨wr.heap.size,0,none⟩) (keep_call hb4 (keep_new (w:=wr.drew) hcz _)) (Nat.ne_of_lt hb2w)) (Nat.ne_of_lt hb2w)⟩) (first | (go_at_call 159;refine (Calls.mono (HPut.out _) ?_);rintro e w4 ⟨s4,n4,k4,rfl,hk4,hb4⟩;have HK4:=hide hk4;obtain ⟨hc4,hf4⟩:=bcell hb4;clear hk4))
            · obtain ⟨W5,hW5⟩:∃ W5,W5 = w4.alloc (.cells #[.string s4,.int .i64 n4] 27):=⟨_,rfl⟩
              rw [← hW5]
              have hb5:Below w2.heap.size w2 W5:=by rw [hW5];exact (hbe.drew.trans (hb4.mono (Nat.le_of_lt hzw))).alloc (by have:=hb4.size;simp at this;omega) _
              have kY:Bk W5 w4.heap.size 27 #[.string s4,.int .i64 n4]:=by rw [hW5];exact Bk.new _ _ _
              have kx5:Bk W5 w2.heap.size 27 #[.string sx,.int .i64 nx]:=by rw [hW5];exact (kx.drew.keep hb4).alloc _
              have kr5:Bk W5 (w.heap.size + 1) 27 #[.string ⟨#[]⟩,.int .i64 0]:=by rw [hW5];exact (krk.drew.keep hb4).alloc _
              have kb5:Bk W5 w.heap.size 27 #[.string s,.int .i64 n]:=by rw [hW5];exact (kbr.drew.keep hb4).alloc _
              have hY:w2.heap.size < w4.heap.size:=by have:=hb4.size;simp at this;omega
              obtain ⟨Y,hYe⟩:∃ Y,Y = w4.heap.size:=⟨_,rfl⟩
              rw [← hYe] at kY hY ⊢
              clear hW5 hYe
              have hYl:=kY.lt
              have hYk:w2.heap.size < Y:=hY
              clear hY hcv hcz hc r0 r1 v0 v1 q0 q1 y0 y1 z0 z1 hb4 HPut
              obtain ⟨q0,q1⟩:=two_cells kb5
              obtain ⟨r0,r1⟩:=two_cells kr5
              obtain ⟨v0,v1⟩:=two_cells kx5
              obtain ⟨x0,x1⟩:=two_cells kY
              have y0:=kr5.free 0
              have y1:=kr5.free 1
              have z0:=kx5.free 0
              have z1:=kx5.free 1
              have hbew5:=hbe2.trans (hb5.mono (by omega))
              rcases HK4.out with ⟨rfl,hgt⟩ | ⟨rfl,hgt,hbs4⟩
              · have hst:=HSt.out
                rw [if_pos hgt] at hst
                have hRd:=HRd2.out
                rw [if_neg (by rw [hst];decide),hst] at hRd
                have HRd:=hide hRd
                clear hst hRd hgt HK4
                go_wp2_with fail
                obtain ⟨t0,t1⟩:=two_cells ((kr5.set_ 0 (.string s)).set_ 1 (.int .i64 n))
                refine bodyPost_ret (v:=.tuple #[bstr s n,.int .i64 8]) (by simp [results,Tryz.results110,go_sem,t0,t1]) rfl ?_
                exact WriteP.same HRd.out (by omega) ((hbew5.setCell (by simp) _).setCell (by simp) _)
              · have hst:=HSt.out
                rw [if_neg (by omega)] at hst
                have hRd:=HRd2.out
                rw [if_pos hst] at hRd
                have HRd:=hide hRd
                have hbl:bitsL sx nx = l:=by rw [HNx.out];exact HBs.out.2.2
                rw [hbl,← HCode.out] at hbs4
                have HB4:=hide hbs4
                obtain ⟨n4,rfl⟩:∃ m:Nat,n4 = m:=⟨_,hbs4.2.1⟩
                clear hst hRd hgt HK4 hbs4 hbl
                go_wp2_with fail
                go_roundw
                case rel => exact ⟨k + 1,s4,n4,by omega,by go_num,(kx5.set_ 0 (.string s4)).set_ 1 (.int .i64 n4),hide ⟨l ++ codeB ls x,HB4.out,HRd.out⟩,(hb5.setCell (Nat.le_refl _) _).setCell (Nat.le_refl _) _⟩
                case measure => simp [intOf];omega
            · obtain ⟨W5,hW5⟩:∃ W5,W5 = (w4.setCell ⟨wr.heap.size,0,none⟩ (.string s4)).setCell ⟨wr.heap.size,1,none⟩ (.int .i64 n4):=⟨_,rfl⟩
              rw [← hW5]
              have hb5:Below w2.heap.size w2 W5:=by rw [hW5];exact ((((hbe.drew.alloc (Nat.le_of_lt hzw) _).trans (hb4.mono (by simp;omega))).setCell (by simp;omega) _).setCell (by simp;omega) _)
              have kY:Bk W5 wr.heap.size 27 #[.string s4,.int .i64 n4]:=by rw [hW5];exact (((Bk.new wr.drew _ _).keep hb4).set_ 0 (.string s4)).set_ 1 (.int .i64 n4)
              have kx5:Bk W5 w2.heap.size 27 #[.string sx,.int .i64 nx]:=by rw [hW5];exact (((kx.drew.alloc _).keep hb4).far (p:=⟨wr.heap.size,0,none⟩) (Nat.ne_of_lt hzw) _).far (p:=⟨wr.heap.size,1,none⟩) (Nat.ne_of_lt hzw) _
              have kr5:Bk W5 (w.heap.size + 1) 27 #[.string ⟨#[]⟩,.int .i64 0]:=by rw [hW5];exact (((krk.drew.alloc _).keep hb4).far (p:=⟨wr.heap.size,0,none⟩) (show w.heap.size + 1 ≠ wr.heap.size by omega) _).far (p:=⟨wr.heap.size,1,none⟩) (show w.heap.size + 1 ≠ wr.heap.size by omega) _
              have kb5:Bk W5 w.heap.size 27 #[.string s,.int .i64 n]:=by rw [hW5];exact (((kbr.drew.alloc _).keep hb4).far (p:=⟨wr.heap.size,0,none⟩) (show w.heap.size ≠ wr.heap.size by omega) _).far (p:=⟨wr.heap.size,1,none⟩) (show w.heap.size ≠ wr.heap.size by omega) _
              have hY:w2.heap.size < wr.heap.size:=hzw
              obtain ⟨Y,hYe⟩:∃ Y,Y = wr.heap.size:=⟨_,rfl⟩
              rw [← hYe] at kY hY ⊢
              clear hW5 hYe
              have hYl:=kY.lt
              have hYk:w2.heap.size < Y:=hY
              clear hY hcv hcz hc r0 r1 v0 v1 q0 q1 y0 y1 z0 z1 hb4 HPut
              obtain ⟨q0,q1⟩:=two_cells kb5
              obtain ⟨r0,r1⟩:=two_cells kr5
              obtain ⟨v0,v1⟩:=two_cells kx5
              obtain ⟨x0,x1⟩:=two_cells kY
              have y0:=kr5.free 0
              have y1:=kr5.free 1
              have z0:=kx5.free 0
              have z1:=kx5.free 1
              have hbew5:=hbe2.trans (hb5.mono (by omega))
              rcases HK4.out with ⟨rfl,hgt⟩ | ⟨rfl,hgt,hbs4⟩
              · have hst:=HSt.out
                rw [if_pos hgt] at hst
                have hRd:=HRd2.out
                rw [if_neg (by rw [hst];decide),hst] at hRd
                have HRd:=hide hRd
                clear hst hRd hgt HK4
                go_wp2_with fail
                obtain ⟨t0,t1⟩:=two_cells ((kr5.set_ 0 (.string s)).set_ 1 (.int .i64 n))
                refine bodyPost_ret (v:=.tuple #[bstr s n,.int .i64 8]) (by simp [results,Tryz.results110,go_sem,t0,t1]) rfl ?_
                exact WriteP.same HRd.out (by omega) ((hbew5.setCell (by simp) _).setCell (by simp) _)
              · have hst:=HSt.out
                rw [if_neg (by omega)] at hst
                have hRd:=HRd2.out
                rw [if_pos hst] at hRd
                have HRd:=hide hRd
                have hbl:bitsL sx nx = l:=by rw [HNx.out];exact HBs.out.2.2
                rw [hbl,← HCode.out] at hbs4
                have HB4:=hide hbs4
                obtain ⟨n4,rfl⟩:∃ m:Nat,n4 = m:=⟨_,hbs4.2.1⟩
                clear hst hRd hgt HK4 hbs4 hbl
                go_wp2_with fail
                go_roundw
                case rel => exact ⟨k + 1,s4,n4,by omega,by go_num,(kx5.set_ 0 (.string s4)).set_ 1 (.int .i64 n4),hide ⟨l ++ codeB ls x,HB4.out,HRd.out⟩,(hb5.setCell (Nat.le_refl _) _).setCell (Nat.le_refl _) _⟩
                case measure => simp [intOf];omega
      · rw [List.drop_eq_nil_of_le (by omega),writeL] at hRd
        have HRd:=hide hRd
        clear hRd hbs hRk
        go_wp2_with fail
        obtain ⟨t0,t1⟩:=two_cells ((krk.set_ 0 (.string sx)).set_ 1 (.int .i64 nx))
        refine bodyPost_ret (v:=.tuple #[bstr sx nx,.int .i64 0]) (by simp [results,Tryz.results110,go_sem,t0,t1]) rfl ?_
        exact WriteP.ok HRd.out HBs.out ((hbew.setCell (by simp) _).setCell (by simp) _)
   · have hok:okL ls = false:=by simpa using hok
     have hf:writeR ls s n xs = (7,[]):=by unfold writeR;rw [if_pos HR.out,if_neg (by rw [hok];decide)]
     have HF:=hide hf
     have e1:codesL ls = []:=by simp [codesL,hok]
     have e2:okW ls = 7:=by simp [okW,hok]
     have cd:∀ W,Below w.heap.size w W → Calls Tryz.prog 158 #[.slice A ls.length c] W fun e w' => ∃ A' c',e = .returned (.tuple #[.slice A' 0 c',.int .i64 7]) ∧ Below W.heap.size W w':=fun W hW => by
      refine (HO.out W hW).mono ?_
      rintro e w' ⟨A',c',rfl,hrd,hb⟩
      exact ⟨A',c',by rw [e1,e2];rfl,hb⟩
     have HCd:=hide cd
     clear hf hok e1 e2 cd HO
     go_enter Tryz.func110,Tryz.ntmps110
     go_wp2_with (first
      | (go_at_call 38;refine (refCheck_any s n _ hn hs).mono ?_;rintro e w1 ⟨rfl,hb1⟩;rw [hz];have hbe1:Below w.heap.size w w1:=(((Below.refl _ _).alloc (Nat.le_refl _) _).alloc (by simp) _).trans (hb1.mono (by simp;omega));have kr:=(Bk.new1 w (.cells #[.string s,.int .i64 n] 27) 27 #[.string ⟨#[]⟩,.int .i64 0]).keep hb1)
      | (go_at_call 158;refine (Calls.mono (HCd.out _ hbe1) ?_);rintro e w2 ⟨A',c',rfl,hb2⟩;have hbe2:Below w.heap.size w w2:=hbe1.trans (hb2.mono hbe1.size);have kr2:=kr.keep hb2;obtain ⟨x0,x1⟩:=two_cells kr2;have y0:=kr2.free 0;have y1:=kr2.free 1))
     obtain ⟨t0,t1⟩:=two_cells ((kr2.set_ 0 (.string ⟨#[]⟩)).set_ 1 (.int .i64 0))
     refine bodyPost_ret (v:=.tuple #[bstr ⟨#[]⟩ 0,.int .i64 7]) (by simp [results,Tryz.results110,go_sem,t0,t1]) rfl ?_
     exact WriteP.zero HF.out (by omega) ((hbe2.setCell (by simp) _).setCell (by simp) _)
 · have hz:chkB s n = 2:=by simp [chkB,hr]
   have hf:writeR ls s n xs = (2,[]):=by unfold writeR;rw [if_neg hr]
   have HF:=hide hf
   clear hf hr
   go_enter Tryz.func110,Tryz.ntmps110
   go_wp2_with (go_at_call 38;refine (refCheck_any s n _ hn hs).mono ?_;rintro e w1 ⟨rfl,hb1⟩;rw [hz];have hbe1:Below w.heap.size w w1:=(((Below.refl _ _).alloc (Nat.le_refl _) _).alloc (by simp) _).trans (hb1.mono (by simp;omega));have kr:=(Bk.new1 w (.cells #[.string s,.int .i64 n] 27) 27 #[.string ⟨#[]⟩,.int .i64 0]).keep hb1;obtain ⟨x0,x1⟩:=two_cells kr;have y0:=kr.free 0;have y1:=kr.free 1)
   obtain ⟨t0,t1⟩:=two_cells ((kr.set_ 0 (.string ⟨#[]⟩)).set_ 1 (.int .i64 0))
   refine bodyPost_ret (v:=.tuple #[bstr ⟨#[]⟩ 0,.int .i64 2]) (by simp [results,Tryz.results110,go_sem,t0,t1]) rfl ?_
   exact WriteP.zero HF.out (by omega) ((hbe1.setCell (by simp) _).setCell (by simp) _)
end Go.Proofs.YtcfnjpokfodmoaaGreatDoor
