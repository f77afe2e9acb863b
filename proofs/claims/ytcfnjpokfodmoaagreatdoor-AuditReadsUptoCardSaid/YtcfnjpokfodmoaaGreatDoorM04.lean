/- Lemmas for the row: Of, Find, Next, CWrite, ApartPlain, BackPlain, SegSym, TabI. -/
import Derived.Test.YtcfnjpokfodmoaaGreatDoorM01
import Derived.Test.YtcfnjpokfodmoaaGreatDoorM03
import Derived.Deep.OwnRows
set_option maxRecDepth 100000
set_option linter.unusedVariables false
namespace Go.Proofs.YtcfnjpokfodmoaaGreatDoor
open Go.RowKit
theorem info_int:(Tryz.prog.info? 3).map (fun i => (i.zero,i.size,i.bytes)) = some (some (.int .i64 0),1,8):=by kernel_rfl
theorem info_u64:(Tryz.prog.info? 22).map (fun i => (i.zero,i.size,i.bytes)) = some (some (.int .u64 0),1,8):=by kernel_rfl
theorem symC_length_le (ls:List Int) (l:Nat):(symC ls l).length ≤ l * ls.length:=by
 induction l with
 | zero => simp [symC]
 | succ l ih =>
   have h1:=idxT_length ls (l + 1) ls.length (Nat.le_refl _)
   have h2:=cntT_le ls (l + 1) ls.length
   rw [symC,List.length_append,Nat.add_mul]
   unfold idxC;omega
theorem codP_all (ls:List Int) (j:Nat):codP ls 16 0 j = (codeN ls j:Nat):=by
 unfold codP
 by_cases h0:lenN ls j = 0
 · rw [if_pos h0,codeN,if_neg (by omega)];rfl
 · rw [if_neg h0]
   by_cases h:lenN ls j < 16
   · rw [if_pos (by omega)]
   · rw [if_neg (by omega),codeN,if_neg (by omega)];rfl
theorem own_form' {w:World} {base e n:Nat} {v:Value} {xs:List Value} (h:w.ownsRow base e 1 v n xs):∃ A c,v = .slice A n c ∧ Rd w w.heap.size A xs:=by
 rcases h.2 with ⟨rfl,rfl⟩ | ⟨g,cap,cur,rfl,_⟩
 · exact ⟨none,0,rfl,own_rd h⟩
 · exact ⟨_,cap,rfl,own_rd h⟩
def Book (w:World) (B p:Nat) (ls:List Int) (A:Option Addr) (c:Nat):Prop:=∃ (As:Option Addr) (cs:Nat) (Ac:Option Addr) (cc:Nat),
 Bk w p 202 (bookC (tab 16 (cntP ls 16 0)) (tab 16 (fstP ls 15)) (.slice As (symC ls 15).length cs) (.slice Ac ls.length cc) (.slice A ls.length c)) ∧ p < B ∧
 Rd w B As ((symC ls 15).map fun j => .int .i64 (j:Nat)) ∧ Rd w B Ac ((tab ls.length fun j => (codeN ls j:Nat)).map (.int .u64)) ∧ Rd w B A (ls.map (.int .i64))
def BookN (w:World) (lo p:Nat) (ls:List Int) (A:Option Addr) (c:Nat):Prop:=∃ (As:Option Addr) (cs:Nat) (Ac:Option Addr) (cc:Nat),
 Bk w p 202 (bookC (tab 16 (cntP ls 16 0)) (tab 16 (fstP ls 15)) (.slice As (symC ls 15).length cs) (.slice Ac ls.length cc) (.slice A ls.length c)) ∧ lo ≤ p ∧
 Rd w w.heap.size As ((symC ls 15).map fun j => .int .i64 (j:Nat)) ∧ (∀ a,As = some a → lo ≤ a.block) ∧ Rd w w.heap.size Ac ((tab ls.length fun j => (codeN ls j:Nat)).map (.int .u64)) ∧ (∀ a,Ac = some a → lo ≤ a.block)
theorem BookN.book {w:World} {lo p:Nat} {ls:List Int} {A:Option Addr} {c:Nat} (h:BookN w lo p ls A c) (hA:Rd w w.heap.size A (ls.map (.int .i64))):Book w w.heap.size p ls A c:=by
 obtain ⟨As,cs,Ac,cc,h1,h2,h3,h4,h5,h6⟩:=h
 exact ⟨As,cs,Ac,cc,h1,h1.lt,h3,h5,hA⟩
theorem Rd.frA {w w':World} {S:Nat → Prop} {A:Option Addr} {xs:List Value} (h:Rd w w.heap.size A xs) (hf:Fr S w w') (hS:∀ a,A = some a → a.block < w.heap.size → ¬ S a.block):Rd w' w'.heap.size A xs:=fun i u hu => by
 obtain ⟨b,o,e,hb,hc⟩:=h i u hu
 have:=hf.size
 exact ⟨b,o,e,by omega,hf.cell (p:=⟨b,o + i,none⟩) (hS ⟨b,o,none⟩ e hb) hc⟩
theorem BookN.fr {w w':World} {lo p:Nat} {ls:List Int} {A:Option Addr} {c:Nat} {S:Nat → Prop} (h:BookN w lo p ls A c) (hf:Fr S w w') (hS:∀ g,lo ≤ g → g < w.heap.size → ¬ S g):BookN w' lo p ls A c:=by
 obtain ⟨As,cs,Ac,cc,h1,h2,h3,h4,h5,h6⟩:=h
 exact ⟨As,cs,Ac,cc,h1.fr hf (hS _ h2 h1.lt),h2,h3.frA hf (fun a ha hl => hS _ (h4 a ha) hl),h4,h5.frA hf (fun a ha hl => hS _ (h6 a ha) hl),h6⟩
def OfSt (w wr:World) (A:Option Addr) (c:Nat) (ls:List Int) (C P l lf i:Nat) (sv:Value):Prop :=
 Bk wr P 202 (bookC (tab 16 (cntP ls l i)) (tab 16 (fstP ls lf)) sv (.slice (some ⟨C,0,none⟩) ls.length ls.length) (.slice A ls.length c)) ∧
 Bk wr C 22 ((tab ls.length (codP ls l i)).map (Value.int .u64)).toArray ∧
 wr.ownsRow w.heap.size 3 1 sv (symC ls (l - 1) ++ idxT ls l i).length ((symC ls (l - 1) ++ idxT ls l i).map fun j => .int .i64 (j:Nat)) ∧
 Below w.heap.size w wr ∧ w.heap.size ≤ C ∧ w.heap.size ≤ P
section
variable {w wr:World} {A:Option Addr} {c:Nat} {ls:List Int} {C P l lf i:Nat} {sv:Value}
theorem OfSt.ne (h:OfSt w wr A c ls C P l lf i sv):C ≠ P ∧ sv.ownBlock ≠ some P ∧ sv.ownBlock ≠ some C :=
 ⟨Bk.ne_ h.2.1 h.1 (by decide),fun e => own_ne h.2.2.1 h.1 (by decide) e.symm,fun e => own_ne h.2.2.1 h.2.1 (by decide) e.symm⟩
theorem OfSt.cells (h:OfSt w wr A c ls C P l lf i sv):wr.cell? ⟨P,32,none⟩ = some sv ∧ wr.cell? ⟨P,33,none⟩ = some (.slice (some ⟨C,0,none⟩) ls.length ls.length) ∧ wr.cell? ⟨P,34,none⟩ = some (.slice A ls.length c):=by
 obtain ⟨a,b,d⟩:=bookC_tail (cnt:=tab 16 (cntP ls l i)) (fst:=tab 16 (fstP ls lf)) (v:=sv) (cv:=.slice (some ⟨C,0,none⟩) ls.length ls.length) (lv:=.slice A ls.length c) (by simp) (by simp)
 exact ⟨(h.1.cell 32).trans a,(h.1.cell 33).trans b,(h.1.cell 34).trans d⟩
theorem OfSt.first (h:OfSt w wr A c ls C P l (l - 1) 0 sv) (h1:1 ≤ l) (h15:l ≤ 15):OfSt w (wr.setCell ⟨P,16 + l,none⟩ (.int .u64 (fstC ls l:Nat))) A c ls C P l l 0 sv:=by
 obtain ⟨hn1,hn2,hn3⟩:=h.ne
 refine ⟨?_,h.2.1.far hn1 _,own_set h.2.2.1 hn2 _,h.2.2.2.1.setCell h.2.2.2.2.2 _,h.2.2.2.2⟩
 have:=h.1.set_ (16 + l) (.int .u64 (fstC ls l:Nat))
 rw [bookC_setFst (by simp) (by simp) l (by omega),fstP_next ls l h1 h15] at this
 exact this
theorem OfSt.next (h:OfSt w wr A c ls C P l l ls.length sv) (h1:1 ≤ l):OfSt w wr A c ls C P (l + 1) (l + 1 - 1) 0 sv:=by
 obtain ⟨a,b,d,r⟩:=h
 rw [cntP_next ls l h1] at a
 rw [codP_next] at b
 refine ⟨a,b, ?_,r⟩
 obtain ⟨k,rfl⟩:∃ k,l = k + 1:=⟨l - 1,by omega⟩
 rw [show k + 1 + 1 - 1 = k + 1 by omega,symC,idxT_zero,List.append_nil]
 exact d
theorem OfSt.miss (h:OfSt w wr A c ls C P l l i sv) (h1:1 ≤ l) {x:Int} (hx:ls[i]? = some x) (hn:¬ x = (l:Int)):OfSt w wr A c ls C P l l (i + 1) sv:=by
 obtain ⟨a,b,d,r⟩:=h
 refine ⟨by rw [cntP_miss hx hn];exact a,by rw [codP_miss h1 hx hn];exact b, ?_,r⟩
 rw [idxT_step hx,if_neg hn,List.append_nil];exact d
theorem OfSt.hit (h:OfSt w wr A c ls C P l l i sv) (h1:1 ≤ l) (h15:l ≤ 15) (hx:ls[i]? = some (l:Int)) {X:Obj} {w2:World} {sv':Value}
 (hown:w2.ownsRow w.heap.size 3 1 sv' ((symC ls (l - 1) ++ idxT ls l i).length + 1) (((symC ls (l - 1) ++ idxT ls l i).map fun j => .int .i64 (j:Nat)) ++ [.int .i64 (i:Nat)]))
 (hg:((wr.setCell ⟨C,i,none⟩ (.int .u64 ((fstC ls l + cntT ls l i:Nat):Int))).alloc X).grownBy w2 sv.ownBlock) (n:Nat) :
 OfSt w (((w2.setCell ⟨P,32,none⟩ sv').setCell ⟨P,l,none⟩ (.int .i64 ((cntT ls l i:Nat) + 1:Int))).drewN n) A c ls C P l l (i + 1) sv':=by
 obtain ⟨hn1,hn2,hn3⟩:=h.ne
 obtain ⟨a,b,d,hb,hC,hP⟩:=h
 have a1:Bk (wr.setCell ⟨C,i,none⟩ (.int .u64 ((fstC ls l + cntT ls l i:Nat):Int))) P _ _:=a.far (p:=⟨C,i,none⟩) (fun e => hn1 e.symm) _
 have b1:=b.set_ i (.int .u64 ((fstC ls l + cntT ls l i:Nat):Int))
 rw [List.setIfInBounds_toArray,← List.map_set,codP_hit h1 h15 hx] at b1
 have a2:=(a1.alloc X).grown hg (fun e => hn2 e.symm)
 have b2:=(b1.alloc X).grown hg (fun e => hn3 e.symm)
 have a3:=a2.set_ 32 sv'
 rw [bookC_setSym (by simp) (by simp)] at a3
 have a4:=(a3.set_ l (.int .i64 ((cntT ls l i:Nat) + 1:Int))).drewN n
 rw [bookC_setCnt (by simp) l (by omega),cntP_hit h1 h15 hx] at a4
 have o2:sv'.ownBlock ≠ some P:=fun e => own_ne hown a2 (by decide) e.symm
 refine ⟨a4,(((b2.far (p:=⟨P,32,none⟩) hn1 _)).far (p:=⟨P,l,none⟩) hn1 _).drewN n, ?_, ?_,hC,hP⟩
 · rw [idxT_step hx,if_pos rfl,← List.append_assoc,List.map_append,List.length_append]
   have:=own_set (p:=⟨P,32,none⟩) hown o2 sv'
   have h3:(w2.setCell ⟨P,32,none⟩ sv').ownsRow w.heap.size 3 1 sv' ((symC ls (l - 1) ++ idxT ls l i).length + 1) (((symC ls (l - 1) ++ idxT ls l i).map fun j => .int .i64 (j:Nat)) ++ [.int .i64 (i:Nat)]):=this
   exact own_set (p:=⟨P,l,none⟩) h3 o2 _
 · have hb1:Below w.heap.size w ((wr.setCell ⟨C,i,none⟩ (.int .u64 ((fstC ls l + cntT ls l i:Nat):Int))).alloc X):=(hb.setCell hC _).alloc (by have:=hb.size;simp;omega) X
   have hb2:=hb1.grown hg (by have:=hb1.size;exact this) (fun k hk => (d.lt k hk).1)
   exact below_drewN ((hb2.setCell (p:=⟨P,32,none⟩) hP _).setCell hP _) n
end
set_option maxHeartbeats 4000000 in
theorem of_new (A:Option Addr) (ls:List Int) (c:Nat) (w:World) (h:Rd w w.heap.size A (ls.map (.int .i64))) (hlen:ls.length ≤ 512) :
 Calls Tryz.prog 86 #[.slice A ls.length c] w fun e w' => ∃ p,e = .returned (.pointer (some ⟨p,0,none⟩)) ∧ BookN w' w.heap.size p ls A c ∧ Below w.heap.size w w':=by
 obtain ⟨i0,hi,hz0,hz1,hz2⟩:=info_parts info_int
 have hmk:=run_make_row' (P:=Tryz.prog) 93 22 (.int .u64 0) 8 Tryz.underlying93 info_u64 rfl .i64 .i64 ls.length (by omega) (by omega)
 have H:=hide h
 clear h
 go_enter Tryz.func86,Tryz.ntmps86
 go_wp2
 go_loopw [4,5] (fun cd l wr => ∃ (L:Nat) (sv:Value),(1 ≤ L ∧ L ≤ 16) ∧ l = .int .i64 L ∧ cd = .int .u64 (nxtC ls (L - 1)) ∧ OfSt w wr A c ls w.heap.size (w.heap.size + 1) L (L - 1) 0 sv) (fun _ l _ => 16 - (intOf l).toNat)
 case atStart =>
  have z1:tab 16 (cntP ls 1 0) = tab 16 fun _ => 0:=tab_congr fun j hj => by unfold cntP;rw [cntT_zero];split;rfl;split;omega;split <;> rfl
  have z2:tab 16 (fstP ls (1 - 1)) = tab 16 fun _ => 0:=tab_congr fun j hj => by unfold fstP;split;rfl;split;omega;rfl
  have z3:((tab ls.length (codP ls 1 0)).map (Value.int .u64)).toArray = madeCells #[.int .u64 0] ls.length:=by
   rw [show tab ls.length (codP ls 1 0) = tab ls.length fun _ => 0 from tab_congr fun j hj => by unfold codP;split;rfl;split;omega;rfl]
   apply Array.ext
   · simp [size_madeCells]
   · intro i h1 h2;simp [madeCells,tab,Nat.mod_one]
  refine ⟨1,.slice none 0 0,by omega,rfl,rfl, ?_, ?_,World.ownsRow_nil _ _ _ _,by go_grown,Nat.le_refl _,by omega⟩
  · rw [z1,z2,bookC_zero];exact Bk.new1 _ _ _ _
  · rw [z3];exact (Bk.new _ _ _).alloc _
 case round =>
  obtain ⟨L,sv,⟨hL1,hL16⟩,rfl,rfl,hst⟩:=hrel
  by_cases hl:L ≤ 15
  · obtain ⟨N,hN⟩:∃ N,N = nxtC ls (L - 1):=⟨_,rfl⟩
    have hNb:N ≤ 300000000:=by rw [hN];exact nxtC_small hlen (by omega)
    have hF:fstC ls L = 2 * N:=by rw [hN];rfl
    rw [← hN]
    have hbk:=hst.1
    have d0:=hst.cells
    have hw0:=(hbk.cell (16 + L)).trans (bookC_fst (by simp) (tab_get _ (show L < 16 by omega)))
    have fr0:=hbk.free (16 + L)
    have HN:=hide hN
    have HF:=hide hF
    clear hN hF
    have hl':decide ((L:Int) ≤ 15) = true:=decide_eq_true (by omega)
    have eF:((fstC ls L:Nat):Int) = (N:Int) * 2:=by have:=HF.out;omega
    have st1:=hst.first hL1 hl
    rw [eF] at st1
    have HE:=hide eF
    clear eF hst
    go_wp2
    clear hw0 fr0 d0 hbk
    go_loopw [4,28] (fun cd i wx => ∃ (k:Nat) (sv1:Value),k ≤ ls.length ∧ i = .int .i64 k ∧ cd = .int .u64 ((N:Int) * 2 + (cntT ls L k:Nat)) ∧ OfSt w wx A c ls w.heap.size (w.heap.size + 1) L L k sv1) (fun _ i _ => ls.length - (intOf i).toNat)
    case atStart => exact ⟨0,sv,by omega,rfl,by simp [cntT_zero],st1⟩
    case round =>
     clear st1
     obtain ⟨k,sv1,hk,rfl,rfl,hst⟩:=hrel
     obtain ⟨T,hT⟩:∃ T,T = cntT ls L k:=⟨_,rfl⟩
     have hTb:T ≤ 512:=by rw [hT];exact Nat.le_trans (cntT_le _ _ _) hlen
     rw [← hT]
     have HT:=hide hT
     clear hT
     by_cases hlt:k < ls.length
     · obtain ⟨b,o,x,rfl,hb,hx,hc0⟩:=H.out.int hlt
       have hc:=(hst.2.2.2.1.cell (p:=⟨b,o + k,none⟩) hb).trans hc0
       have HX:=hide hx
       clear hx hc0
       by_cases he:x = (L:Int)
       · subst he
         obtain ⟨d0,d1,d2⟩:=hst.cells
         obtain ⟨n1,n2,n3⟩:=hst.ne
         have k0:wr.cell? ⟨w.heap.size,k,none⟩ = some (.int .u64 (codP ls L k k)):=(hst.2.1.cell k).trans (by simp [tab,hlt])
         have k1:=hst.2.1.free k
         have hsz:=hst.2.2.2.1.size
         have hpz:=hst.1.lt
         have hsl:(symC ls (L - 1) ++ idxT ls L k).length ≤ 10000:=by
          have h1:=symC_length_le ls (L - 1)
          have h2:=idxT_length ls L k hk
          have h3:=cntT_le ls L k
          have h4:=Nat.mul_le_mul (show L - 1 ≤ 15 by omega) hlen
          rw [List.length_append];omega
         have hoX:∀ (u:Value) (X:Obj),Hid (((wr.setCell ⟨w.heap.size,k,none⟩ u).alloc X).ownsRow w.heap.size 3 1 sv1 (symC ls (L - 1) ++ idxT ls L k).length ((symC ls (L - 1) ++ idxT ls L k).map fun j => .int .i64 (j:Nat))) :=
          fun u X => (own_set (p:=⟨w.heap.size,k,none⟩) hst.2.2.1 n3 u).alloc X
         have hcX:∀ (u v:Value),Hid (∀ j x,[v][j]? = some x → ((wr.setCell ⟨w.heap.size,k,none⟩ u).alloc (.cells #[v] 3)).cell? ((⟨wr.heap.size,0,none⟩:Addr).add j) = some x):=fun u v => by
          have:=cell_one_new (wr.setCell ⟨w.heap.size,k,none⟩ u) v 3
          rwa [show (wr.setCell ⟨w.heap.size,k,none⟩ u).heap.size = wr.heap.size by simp] at this
         have hbX:∀ (u:Value) (X:Obj),Hid (Bk ((wr.setCell ⟨w.heap.size,k,none⟩ u).alloc X) (w.heap.size + 1) 202 (bookC (tab 16 (cntP ls L k)) (tab 16 (fstP ls L)) sv1 (.slice (some ⟨w.heap.size,0,none⟩) ls.length ls.length) (.slice (some ⟨b,o,none⟩) ls.length c))) :=
          fun u X => ((hst.1.far (p:=⟨w.heap.size,k,none⟩) (fun e => n1 e.symm) u).alloc X)
         have hcnt:cntP ls L k L = T:=by
          have:=HT.out
          unfold cntP
          rw [if_neg (by omega),if_neg (by omega),if_pos rfl,← this]
         have HC:=hide hcnt
         have HS:=hide hst
         have HN2:=hide n2
         clear hst hcnt n1 n2 n3
         have hlx:((L:Int) == (L:Int)) = true:=by simp
         go_wp2_with (at_builtin;refine wpList_append_own _ rfl (.tmp 47) (.tmp 49) 74 rfl w.heap.size 3 i0 (.int .i64 0) 1 8 Tryz.underlying74 hi hz0 hz1 hz2 rfl (by decide) sv1 _ _ rfl (hoX _ _).out ⟨wr.heap.size,0,none⟩ 1 1 [.int .i64 k] rfl rfl (hcX _ _).out (by intro u hu;simp at hu;subst hu;rfl) (by unfold maxLen;omega) (by omega) (by simp;omega) ?_;intro v' w2 hown2 hgr2 _;obtain ⟨g1,cp1,rfl,hg1,hg2⟩:=hown2.form (by omega);have hb2:=(hbX _ _).out.grown hgr2 (fun e => HN2.out e.symm);obtain ⟨q0,q1,q2⟩:=bookC_tail (cnt:=tab 16 (cntP ls L k)) (fst:=tab 16 (fstP ls L)) (v:=sv1) (cv:=.slice (some ⟨w.heap.size,0,none⟩) ls.length ls.length) (lv:=.slice (some ⟨b,o,none⟩) ls.length c) (by simp) (by simp);have r0:=(hb2.cell 32).trans q0;have r1:=hb2.free 32;have r2:=(hb2.cell L).trans (bookC_cnt (by simp) (tab_get _ (show L < 16 by omega)));rw [HC.out] at r2;have r3:=hb2.free L)
         go_region
         go_wp2
         go_roundw
         case rel =>
          have e1:((fstC ls L + cntT ls L k:Nat):Int) = (N:Int) * 2 + (T:Int):=by have:=HE.out;have:=HT.out;omega
          have hh:=HS.out.hit hL1 hl HX.out (X:=.cells #[.int .i64 k] 3) (by simpa [List.length_append] using hown2) (by rw [e1];exact hgr2) 1
          rw [← HT.out] at hh
          exact ⟨k + 1,_,by omega,by go_num,by rw [cntT_step HX.out,if_pos rfl,← HT.out];go_num,hh⟩
         case measure => simp [intOf];omega
       · have hxb:(x == (L:Int)) = false:=by simpa using he
         have HS:=hide hst
         clear hst
         go_wp2
         go_roundw
         case rel => exact ⟨k + 1,sv1,by omega,by go_num,by rw [cntT_step HX.out,if_neg he,HT.out];rfl,HS.out.miss hL1 HX.out he⟩
         case measure => simp [intOf];omega
     · have HS:=hide hst
       clear hst
       go_wp2
       go_roundw
       case rel =>
        have hkl:k = ls.length:=by omega
        subst hkl
        exact ⟨L + 1,sv1,⟨by omega,by omega⟩,by go_num,by rw [show L + 1 - 1 = (L - 1) + 1 by omega,nxtC,← HN.out,show L - 1 + 1 = L by omega,HT.out];simp [cntC];omega,HS.out.next hL1⟩
       case measure => simp [intOf];omega
  · have hl':decide ((L:Int) ≤ 15) = false:=decide_eq_false (by omega)
    obtain rfl:L = 16:=by omega
    go_wp2
    go_ret
    refine ⟨w.heap.size + 1,rfl, ?_,hst.2.2.2.1⟩
    obtain ⟨a,b,d,hbe,_⟩:=hst
    rw [idxT_zero,List.append_nil] at d
    have hrd:=own_form' d
    have hd:=d.lt
    obtain ⟨As,cs,rfl,hAs⟩:=hrd
    refine ⟨As,cs,some ⟨w.heap.size,0,none⟩,ls.length,a,by omega,by simpa using hAs,fun x hx => (hd x.block (by rw [hx];rfl)).1, ?_,fun x hx => by cases hx;exact Nat.le_refl _⟩
    intro i u hu
    refine ⟨w.heap.size,0,rfl,b.lt, ?_⟩
    rw [Nat.zero_add,b.cell i,List.getElem?_toArray,show tab ls.length (codP ls 16 0) = tab ls.length fun j => (codeN ls j:Nat) from tab_congr fun j hj => codP_all ls j]
    exact hu
def findC (ls:List Int) (code L:Nat):Option Nat:=if fstC ls L ≤ code ∧ code < fstC ls L + cntC ls L then (idxC ls L)[code - fstC ls L]? else none
def findV (ls:List Int) (code L:Nat):Int:=match findC ls code L with
 | some i => (i:Nat)
 | none => -1
theorem idxC_length (ls:List Int) (l:Nat):(idxC ls l).length = cntC ls l:=idxT_length ls l ls.length (Nat.le_refl _)
theorem idxT_get (ls:List Int) (l:Nat):∀ (n k i:Nat),n ≤ ls.length → ((idxT ls l n)[k]? = some i ↔ i < n ∧ ls[i]? = some (l:Int) ∧ cntT ls l i = k):=by
 intro n
 induction n with
 | zero => intro k i _;simp [idxT_zero]
 | succ n ih =>
   intro k i hn
   have hx:ls[n]? = some ls[n]:=List.getElem?_eq_getElem (by omega)
   rw [idxT_step hx]
   have hl:=idxT_length ls l n (by omega)
   have mono:∀ a b,a ≤ b → cntT ls l a ≤ cntT ls l b:=fun a b hab => by
    unfold cntT
    exact List.Sublist.countP_le (List.take_sublist_take_left hab)
   by_cases he:ls[n] = (l:Int)
   · rw [if_pos he]
     by_cases hk:k < cntT ls l n
     · rw [List.getElem?_append_left (by omega),ih k i (by omega)]
       constructor
       · rintro ⟨a,b,d⟩;exact ⟨by omega,b,d⟩
       · rintro ⟨a,b,d⟩
         refine ⟨?_,b,d⟩
         rcases Nat.lt_or_ge i n with h | h
         · exact h
         · have:=mono n i h;omega
     · rw [List.getElem?_append_right (by omega)]
       constructor
       · intro h
         have hk0:k - (idxT ls l n).length = 0:=by
          rcases Nat.eq_zero_or_pos (k - (idxT ls l n).length) with h0 | h0
          · exact h0
          · rw [List.getElem?_eq_none (by simp;omega)] at h;cases h
         rw [hk0] at h
         simp at h
         subst h
         exact ⟨by omega,by rw [hx,he],by omega⟩
       · rintro ⟨a,b,d⟩
         have hin:i = n:=by
          rcases Nat.lt_or_ge i n with h | h
          · have h1:=mono (i + 1) n h
            rw [cntT_step b,if_pos rfl] at h1;omega
          · omega
         subst hin
         rw [show k - (idxT ls l i).length = 0 by omega];rfl
   · rw [if_neg he,List.append_nil,ih k i (by omega)]
     constructor
     · rintro ⟨a,b,d⟩;exact ⟨by omega,b,d⟩
     · rintro ⟨a,b,d⟩
       refine ⟨?_,b,d⟩
       rcases Nat.lt_or_ge i n with h | h
       · exact h
       · rw [show i = n by omega,hx] at b;simp at b;exact absurd b he
theorem findC_iff (ls:List Int) (code L i:Nat) (h1:1 ≤ L) (h15:L ≤ 15):findC ls code L = some i ↔ i < ls.length ∧ ls[i]? = some (L:Int) ∧ codeN ls i = code:=by
 unfold findC
 constructor
 · intro h
   split at h
   · rename_i hc
     have:=(idxT_get ls L ls.length (code - fstC ls L) i (Nat.le_refl _)).1 h
     refine ⟨this.1,this.2.1, ?_⟩
     have hl:lenN ls i = L:=by rw [lenN_of this.2.1];omega
     unfold codeN
     rw [hl,if_pos ⟨h1,h15⟩,this.2.2];omega
   · cases h
 · rintro ⟨a,b,d⟩
   have hl:lenN ls i = L:=by rw [lenN_of b];omega
   unfold codeN at d
   rw [hl,if_pos ⟨h1,h15⟩] at d
   have hc:cntT ls L i < cntC ls L:=by
    have h2:cntT ls L (i + 1) ≤ cntC ls L:=by
     unfold cntC cntT
     exact List.Sublist.countP_le (List.take_sublist_take_left a)
    rw [cntT_step b,if_pos rfl] at h2;omega
   rw [if_pos ⟨by omega,by omega⟩]
   exact (idxT_get ls L ls.length (code - fstC ls L) i (Nat.le_refl _)).2 ⟨a,b,by omega⟩
theorem symC_prefix (ls:List Int) (l k:Nat):∃ r,symC ls (l + k) = symC ls l ++ r:=by
 induction k with
 | zero => exact ⟨[],by simp⟩
 | succ k ih => obtain ⟨r,hr⟩:=ih;exact ⟨r ++ idxC ls (l + k + 1),by rw [← Nat.add_assoc,symC,hr,List.append_assoc]⟩
theorem symC_at (ls:List Int) {L k i:Nat} (h1:1 ≤ L) (h15:L ≤ 15) (h:(idxC ls L)[k]? = some i):(symC ls 15)[(symC ls (L - 1)).length + k]? = some i:=by
 obtain ⟨r,hr⟩:=symC_prefix ls L (15 - L)
 rw [show L + (15 - L) = 15 by omega] at hr
 have hk:k < (idxC ls L).length:=(List.getElem?_eq_some_iff.1 h).1
 obtain ⟨m,rfl⟩:∃ m,L = m + 1:=⟨L - 1,by omega⟩
 rw [show m + 1 - 1 = m by omega,hr,symC,List.append_assoc,List.getElem?_append_right (by omega),Nat.add_sub_cancel_left,List.getElem?_append_left hk,h]
theorem fstC_small {ls:List Int} {l:Nat} (h:ls.length ≤ 512) (hl:l ≤ 16):fstC ls l ≤ 600000000:=by
 have:=nxtC_small h (show l - 1 ≤ 15 by omega)
 unfold fstC;omega
theorem Book.cells {w:World} {B p:Nat} {ls:List Int} {A:Option Addr} {c:Nat} (h:Book w B p ls A c):∃ As cs Ac cc,
 w.cell? ⟨p,32,none⟩ = some (.slice As (symC ls 15).length cs) ∧ w.cell? ⟨p,33,none⟩ = some (.slice Ac ls.length cc) ∧ w.cell? ⟨p,34,none⟩ = some (.slice A ls.length c) ∧
 (∀ l,l < 16 → 1 ≤ l → w.cell? ⟨p,l,none⟩ = some (.int .i64 (cntC ls l:Nat)) ∧ w.cell? ⟨p,16 + l,none⟩ = some (.int .u64 (fstC ls l:Nat))) ∧ w.cell? ⟨p,0,none⟩ = some (.int .i64 0) ∧
 Rd w B As ((symC ls 15).map fun j => .int .i64 (j:Nat)) ∧ Rd w B Ac ((tab ls.length fun j => (codeN ls j:Nat)).map (.int .u64)) ∧ Rd w B A (ls.map (.int .i64)) ∧ p < B:=by
 obtain ⟨As,cs,Ac,cc,hb,hp,h1,h2,h3⟩:=h
 obtain ⟨a,b,d⟩:=bookC_tail (cnt:=tab 16 (cntP ls 16 0)) (fst:=tab 16 (fstP ls 15)) (v:=.slice As (symC ls 15).length cs) (cv:=.slice Ac ls.length cc) (lv:=.slice A ls.length c) (by simp) (by simp)
 refine ⟨As,cs,Ac,cc,(hb.cell 32).trans a,(hb.cell 33).trans b,(hb.cell 34).trans d,fun l h16 hl => ⟨?_, ?_⟩, ?_,h1,h2,h3,hp⟩
 · have:=(hb.cell l).trans (bookC_cnt (by simp) (tab_get _ h16))
   rw [this];unfold cntP;rw [if_neg (by omega),if_pos h16]
 · have:=(hb.cell (16 + l)).trans (bookC_fst (by simp) (tab_get _ h16))
   rw [this];unfold fstP;rw [if_neg (by omega),if_pos (by omega)]
 · exact (hb.cell 0).trans (bookC_cnt (by simp) (tab_get _ (by omega)))
theorem Book.fr {w w':World} {B p:Nat} {ls:List Int} {A:Option Addr} {c:Nat} {S:Nat → Prop} (h:Book w B p ls A c) (hf:Fr S w w') (hS:∀ g,g < B → ¬ S g):Book w' B p ls A c:=by
 obtain ⟨As,cs,Ac,cc,hb,hp,h1,h2,h3⟩:=h
 exact ⟨As,cs,Ac,cc,hb.fr hf (hS p hp),hp,h1.fr hf hS,h2.fr hf hS,h3.fr hf hS⟩
theorem Book.below {w w':World} {B p:Nat} {ls:List Int} {A:Option Addr} {c:Nat} (h:Book w B p ls A c) (hb:Below B w w'):Book w' B p ls A c:=by
 obtain ⟨As,cs,Ac,cc,hk,hp,h1,h2,h3⟩:=h
 exact ⟨As,cs,Ac,cc,hk.below hb hp,hp,h1.below hb,h2.below hb,h3.below hb⟩
set_option maxHeartbeats 400000 in
theorem find_any (B p:Nat) (ls:List Int) (A:Option Addr) (c code L:Nat) (ahead:Int) (w:World) (h:Book w B p ls A c) (hlen:ls.length ≤ 512) (h1:1 ≤ L) (h15:L ≤ 15) (hc:code < 18446744073709551616) (ha:ahead = (symC ls (L - 1)).length) :
 Calls Tryz.prog 181 #[.pointer (some ⟨p,0,none⟩),.int .u64 code,.int .i64 L,.int .i64 ahead] w fun e w' => e = .returned (.int .i64 (findV ls code L)) ∧ w' = w:=by
 obtain ⟨As,cs,Ac,cc,d32,d33,d34,dl,d0,hs,hco,hls,hp⟩:=h.cells
 obtain ⟨c1,c2⟩:=dl L (by omega) h1
 have hF:=fstC_small hlen (show L ≤ 16 by omega)
 have hC:=cntT_le ls L ls.length
 have hsl:=symC_length_le ls 15
 have hal:=symC_length_le ls (L - 1)
 have hal2:=Nat.mul_le_mul (show L - 1 ≤ 15 by omega) hlen
 obtain ⟨F,hFe⟩:∃ F,F = fstC ls L:=⟨_,rfl⟩
 obtain ⟨C,hCe⟩:∃ C,C = cntC ls L:=⟨_,rfl⟩
 rw [← hCe] at c1
 rw [← hFe] at c2 hF
 have hC:C ≤ 512:=by rw [hCe];exact Nat.le_trans hC hlen
 obtain ⟨H,rfl⟩:∃ H:Nat,ahead = H:=⟨_,ha⟩
 have hHb:H ≤ 8000:=by omega
 have HF:=hide hFe
 have HC:=hide hCe
 have HA:=hide ha
 clear dl d0 d33 d34 hFe hCe ha
 by_cases g1:code < F
 · have hf:findV ls code L = -1:=by unfold findV findC;rw [if_neg (by have:=HF.out;omega)]
   have HV:=hide hf
   clear hf
   go_enter Tryz.func181,Tryz.ntmps181
   go_wp2
   go_ret
   exact ⟨ret_int HV.out.symm,rfl⟩
 · obtain ⟨K,rfl⟩:∃ K,code = F + K:=⟨code - F,by omega⟩
   by_cases g2:C ≤ K
   · have hf:findV ls (F + K) L = -1:=by unfold findV findC;rw [if_neg (by have:=HF.out;have:=HC.out;omega)]
     have HV:=hide hf
     clear hf
     have hb:decide ((F:Int) + (K:Int) < (F:Int)) = false:=decide_eq_false (by omega)
     have hb2:((F:Int) + (K:Int) - (F:Int)) = K:=by omega
     go_enter Tryz.func181,Tryz.ntmps181
     go_wp2
     all_goals
      first
       | (exfalso;omega)
       | (go_ret;exact ⟨ret_int HV.out.symm,rfl⟩)
   · have hK:K < (idxC ls L).length:=by rw [idxC_length,← HC.out];omega
     obtain ⟨i,hi⟩:∃ i,(idxC ls L)[K]? = some i:=⟨_,List.getElem?_eq_getElem hK⟩
     have hf:findV ls (F + K) L = (i:Nat):=by
      unfold findV findC
      rw [if_pos (by have:=HF.out;have:=HC.out;omega),show F + K - fstC ls L = K by have:=HF.out;omega,hi]
     have hsa:=symC_at ls h1 h15 hi
     obtain ⟨b,o,hA,hb,hcell⟩:=hs ((symC ls (L - 1)).length + K) (.int .i64 (i:Nat)) (by rw [List.getElem?_map,hsa];rfl)
     subst hA
     have hHe:(symC ls (L - 1)).length = H:=by have:=HA.out;omega
     rw [hHe] at hcell hsa
     have hin:H + K < (symC ls 15).length:=(List.getElem?_eq_some_iff.1 hsa).1
     have hb2:((F:Int) + (K:Int) - (F:Int)) = K:=by omega
     obtain ⟨M,hM⟩:∃ M,M = (symC ls 15).length:=⟨_,rfl⟩
     rw [← hM] at d32 hin hsl
     have HV:=hide hf
     clear hf hs hco hls hi hsa hM hK hal hal2 hHe
     go_enter Tryz.func181,Tryz.ntmps181
     go_wp2
     go_ret
     exact ⟨ret_int HV.out.symm,rfl⟩
theorem find_i (B p:Nat) (ls:List Int) (A:Option Addr) (c:Nat) (code L ahead:Int) (w:World) (h:Book w B p ls A c) (hlen:ls.length ≤ 512) (h1:1 ≤ L) (h15:L ≤ 15) (h0:0 ≤ code) (hc:code < 18446744073709551616) (ha:ahead = (symC ls (L.toNat - 1)).length) :
 Calls Tryz.prog 181 #[.pointer (some ⟨p,0,none⟩),.int .u64 code,.int .i64 L,.int .i64 ahead] w fun e w' => e = .returned (.int .i64 (findV ls code.toNat L.toNat)) ∧ w' = w:=by
 obtain ⟨code,rfl⟩:=Int.eq_ofNat_of_zero_le h0
 obtain ⟨L,rfl⟩:=Int.eq_ofNat_of_zero_le (show 0 ≤ L by omega)
 exact find_any B p ls A c code L ahead w h hlen (by omega) (by omega) (by omega) ha
set_option maxHeartbeats 1000000 in
theorem code_any (B p:Nat) (ls:List Int) (A:Option Addr) (c i:Nat) (x:Int) (w:World) (h:Book w B p ls A c) (hx:ls[i]? = some x) :
 Calls Tryz.prog 104 #[.pointer (some ⟨p,0,none⟩),.int .i64 i] w fun e w' => e = .returned (.tuple #[.int .u64 (codeN ls i:Nat),.int .i64 x]) ∧ ∃ n,w' = w.drewN n:=by
 obtain ⟨As,cs,Ac,cc,d32,d33,d34,dl,d0,hs,hco,hls,hp⟩:=h.cells
 have hi:i < ls.length:=(List.getElem?_eq_some_iff.1 hx).1
 obtain ⟨b1,o1,rfl,hb1,hc1⟩:=hco i (.int .u64 (codeN ls i:Nat)) (by rw [List.getElem?_map,tab_get _ hi];rfl)
 obtain ⟨b2,o2,rfl,hb2,hc2⟩:=hls i (.int .i64 x) (by rw [List.getElem?_map,hx];rfl)
 obtain ⟨V,hV⟩:∃ V,V = codeN ls i:=⟨_,rfl⟩
 rw [← hV] at hc1
 have HV:=hide hV
 clear d0 dl hs hco hls d32 hx hV
 go_enter Tryz.func104,Tryz.ntmps104
 go_wp2
 go_quiet (fail)
 go_wp2
 go_ret2
 exact ⟨ret_t2 (v_int (by rw [HV.out])) rfl,_,rfl⟩
def nextC (ls:List Int) (s:ByteArray) (N a:Nat):Nat → Nat → Nat → Int × Int × Int
 | 0,_,_ => (0,0,7)
 | f + 1,l,code =>
   if (symC ls 15).length = (symC ls l).length then (0,0,7)
   else if N < a + (l + 1) then (0,0,5)
   else match findC ls (2 * code + (bitAt s (a + l)).toNat) (l + 1) with
    | some i => ((i:Nat),(a + l + 1:Nat),0)
    | none => nextC ls s N a f (l + 1) (2 * code + (bitAt s (a + l)).toNat)
def NextP (r:Int × Int × Int) (w:World) (e:Ending) (w':World):Prop:=e = .returned (.tuple #[.int .u64 r.1,.int .i64 r.2.1,.int .i64 r.2.2]) ∧ Below w.heap.size w w'
theorem NextP.of {r:Int × Int × Int} {x y z:Int} {w w':World} (h:r = (x,y,z)) (hb:Below w.heap.size w w'):NextP r w (.returned (.tuple #[.int .u64 x,.int .i64 y,.int .i64 z])) w':=by
 subst h;exact ⟨rfl,hb⟩
theorem or_bit (C b:Nat) (hC:C < 1000000) (hb:b < 2):bits .or .u64 ((C:Int) * 2) (b:Int) = ((2 * C + b:Nat):Int):=by
 have e:(C:Int) * 2 = ((2 * C:Nat):Int):=by omega
 rw [e,u64_or_nat _ _ (by omega) (by omega),nat_join 1 (2 * C) b (by omega) (by omega)]
theorem symC_step_len (ls:List Int) (l:Nat):(symC ls (l + 1)).length = (symC ls l).length + cntC ls (l + 1):=by
 rw [symC,List.length_append,idxC_length]
theorem symC_len_mono (ls:List Int) {l:Nat} (h:l ≤ 15):(symC ls l).length ≤ (symC ls 15).length:=by
 obtain ⟨r,hr⟩:=symC_prefix ls l (15 - l)
 rw [show l + (15 - l) = 15 by omega] at hr
 rw [hr,List.length_append];omega
set_option maxHeartbeats 2000000 in
theorem next_any (B p:Nat) (ls:List Int) (A:Option Addr) (c:Nat) (s:ByteArray) (N a:Nat) (w:World) (h:Book w B p ls A c) (hB:B ≤ w.heap.size) (hlen:ls.length ≤ 512) (hN:N ≤ 1048576) (hs:s.size = (N + 7) / 8) (ha:a ≤ N) :
 Calls Tryz.prog 130 #[.pointer (some ⟨p,0,none⟩),bstr s N,.int .i64 a] w (NextP (nextC ls s N a 15 0 0) w):=by
 obtain ⟨R,hR⟩:∃ R,R = nextC ls s N a 15 0 0:=⟨_,rfl⟩
 rw [← hR]
 have hsz:s.size ≤ 131072:=by omega
 have HS:=hide hs
 have HBk:=hide h
 have HR:=hide hR
 obtain ⟨As,cs,Ac,cc,d32,d33,d34,dl,d0,hsy,hco,hls,hp⟩:=h.cells
 obtain ⟨M,hM⟩:∃ M,M = (symC ls 15).length:=⟨_,rfl⟩
 have hMb:M ≤ 8000:=by
  have h1:=symC_length_le ls 15
  omega
 rw [← hM] at d32
 have HM:=hide hM
 have hpw:p < w.heap.size:=by omega
 have dX:∀ X:Obj,(w.alloc X).cell? ⟨p,32,none⟩ = some (.slice As M cs):=fun X => (World.cell?_alloc_lt w X ⟨p,32,none⟩ hpw).trans d32
 clear hs h hR d33 d34 dl d0 hsy hco hls hM
 go_enter Tryz.func130,Tryz.ntmps130
 go_wp2_with fail
 clear d32 dX
 go_loopw [9,10,11,12] (fun cd ah lf l wr => ∃ L C H:Nat,(1 ≤ L ∧ L ≤ 16) ∧ l = .int .i64 L ∧ cd = .int .u64 C ∧ C < 2 ^ (L - 1) ∧ ah = .int .i64 H ∧ H ≤ M ∧ lf = .int .i64 ((M:Int) - (H:Int)) ∧ Hid (H = (symC ls (L - 1)).length) ∧ Hid (R = nextC ls s N a (16 - L) (L - 1) C) ∧
  Below w.heap.size w wr ∧ Bk wr w.heap.size 27 #[.string s,.int .i64 N]) (fun _ _ _ l _ => 17 - (intOf l).toNat)
 case atStart => exact ⟨1,0,0,by omega,rfl,rfl,by decide,rfl,by omega,by simp,rfl,hide HR.out,by go_grown,Bk.new _ _ _⟩
 case round =>
  obtain ⟨L,C,H,⟨hL1,hL16⟩,rfl,rfl,hC,rfl,hHM,rfl,hH,hRn,hbe,hbk⟩:=hrel
  have hCb:C < 32768:=Nat.lt_of_lt_of_le hC (Nat.pow_le_pow_right (by omega) (show L - 1 ≤ 15 by omega))
  obtain ⟨e0,e1⟩:=two_cells hbk
  by_cases hl:L ≤ 15
  · have hl':decide ((L:Int) ≤ 15) = true:=decide_eq_true (by omega)
    obtain ⟨K,rfl⟩:∃ K,L = K + 1:=⟨L - 1,by omega⟩
    have hRn':=hRn.out
    rw [show 16 - (K + 1) = (15 - K - 1) + 1 by omega,nextC,show K + 1 - 1 = K by omega] at hRn'
    have hH':=hH.out
    rw [show K + 1 - 1 = K by omega] at hH'
    by_cases h0:M = H
    · have hb0:((M:Int) - (H:Int) == 0) = true:=by simp;omega
      rw [if_pos (by rw [← HM.out,← hH'];exact h0)] at hRn'
      have HF:=hide hRn'
      clear hRn' hH'
      go_wp2_with fail
      go_ret3
      exact NextP.of HF.out hbe
    · have hb0:((M:Int) - (H:Int) == 0) = false:=by simp;omega
      rw [if_neg (by rw [← HM.out,← hH'];exact h0)] at hRn'
      by_cases h1:N < a + (K + 1)
      · rw [if_pos h1] at hRn'
        have HF:=hide hRn'
        clear hRn' hH'
        go_wp2_with fail
        go_ret3
        exact NextP.of HF.out hbe
      · rw [if_neg h1] at hRn'
        obtain ⟨b,hb⟩:∃ b,b = (bitAt s (a + K)).toNat:=⟨_,rfl⟩
        have hb2:b < 2:=by rw [hb];have:=Bool.toNat_lt (bitAt s (a + K));omega
        rw [← hb] at hRn'
        have hg:getN s (a + K) 1 = b:=by rw [hb];simp [getN]
        have hor:=or_bit C b (by omega) hb2
        obtain ⟨C',hC'⟩:∃ C',C' = 2 * C + b:=⟨_,rfl⟩
        rw [← hC'] at hor hRn'
        have hC'b:C' < 65536:=by omega
        have at1:∀ W,Calls Tryz.prog 180 #[bstr s N,.int .i64 ((a:Int) + ((K:Int) + 1) - 1),.int .i64 1] W fun e w' => e = .returned (.int .u64 (b:Nat)) ∧ Below W.heap.size W w':=fun W => by
         have:=at_i s N ((a:Int) + ((K:Int) + 1) - 1) 1 W (by omega) (by omega) (by omega) (by have:=HS.out;omega) (by omega)
         rw [show ((a:Int) + ((K:Int) + 1) - 1).toNat = a + K by omega] at this
         rw [show (1:Int).toNat = 1 from rfl,hg] at this
         exact this
        have HA:=hide at1
        have hlt2:C' < 2 ^ (K + 1):=by rw [Nat.pow_succ];rw [show K + 1 - 1 = K by omega] at hC;omega
        have HL2:=hide hlt2
        have HC':=hide hC'
        have HF:=hide hRn'
        have HH:=hide hH'
        obtain ⟨V,hV⟩:∃ V,V = findV ls C' (K + 1):=⟨_,rfl⟩
        have HV:=hide hV
        have fi:∀ W,Below w.heap.size w W → Calls Tryz.prog 181 #[.pointer (some ⟨p,0,none⟩),.int .u64 C',.int .i64 ((K:Int) + 1),.int .i64 H] W fun e w' => e = .returned (.int .i64 V) ∧ w' = W:=fun W hW => by
         have:=find_i B p ls A c C' ((K:Int) + 1) H W (HBk.out.below (hW.mono hB)) hlen (by omega) (by omega) (by omega) (by omega) (by rw [show ((K:Int) + 1).toNat - 1 = K by omega,← HH.out])
         rw [Int.toNat_natCast,show ((K:Int) + 1).toNat = K + 1 by omega,← HV.out] at this
         exact this
        have HFi:=hide fi
        clear hRn' hH' at1 hlt2 hC' hV fi hg hC hb
        by_cases hv:0 ≤ V
        · have hr:R = (V,((a + K + 1:Nat):Int),0):=by
           have h2:=HF.out
           have h3:=HV.out
           unfold findV at h3
           split at h3
           · rename_i i he;rw [he] at h2;rw [h2,h3]
           · omega
          have HRf:=hide hr
          have hvb:V ≤ 512:=by
           have h3:=HV.out
           unfold findV at h3
           split at h3
           · rename_i i he
             have:=((findC_iff ls C' (K + 1) i (by omega) (by omega)).1 he).1
             omega
           · omega
          clear hr
          go_wp2_with (first | (go_at_call 180;refine (Calls.mono (HA.out _) ?_);rintro e w1 ⟨rfl,hb1⟩) | (go_at_call 181;refine (Calls.mono (HFi.out _ (hbe.trans (hb1.mono hbe.size))) ?_);rintro e w2 ⟨rfl,rfl⟩))
          go_ret3
          exact NextP.of HRf.out (hbe.trans (hb1.mono hbe.size))
        · have hr:R = nextC ls s N a (15 - K - 1) (K + 1) C':=by
           have h2:=HF.out
           have h3:=HV.out
           unfold findV at h3
           split at h3
           · omega
           · rename_i he;rw [he] at h2;exact h2
          have HRf:=hide hr
          have hbk2:=HBk.out.below (hbe.mono hB)
          clear hr
          go_wp2_with (first | (go_at_call 180;refine (Calls.mono (HA.out _) ?_);rintro e w1 ⟨rfl,hb1⟩) | (go_at_call 181;refine (Calls.mono (HFi.out _ (hbe.trans (hb1.mono hbe.size))) ?_);rintro e w2 ⟨rfl,rfl⟩))
          obtain ⟨As,cs,Ac,cc,d32,d33,d34,dl,d0,hsy,hco,hls,hp⟩:=(hbk2.below (hb1.mono (Nat.le_trans hB hbe.size))).cells
          obtain ⟨c1,c2⟩:=dl (K + 1) (by omega) (by omega)
          obtain ⟨T,hT⟩:∃ T,T = cntC ls (K + 1):=⟨_,rfl⟩
          have hTb:H + T ≤ M:=by
           have h1:=symC_len_mono ls (show K + 1 ≤ 15 by omega)
           rw [symC_step_len,← HH.out,← HM.out,← hT] at h1;exact h1
          rw [← hT] at c1
          have HT:=hide hT
          clear d32 d33 d34 dl d0 hsy hco hls hT c2
          go_region
          go_wp2
          go_roundw
          case rel =>
           exact ⟨K + 1 + 1,C',H + T,by omega,by go_num,rfl,by simpa using HL2.out,by go_num,hTb,by go_num,hide (by rw [show K + 1 + 1 - 1 = K + 1 by omega,symC_step_len,← HH.out,← HT.out]),hide (by rw [show 16 - (K + 1 + 1) = 15 - K - 1 by omega,show K + 1 + 1 - 1 = K + 1 by omega];exact HRf.out),(hbe.trans (hb1.mono hbe.size)).drew,(hbk.keep hb1).drew⟩
          case measure => simp [intOf];omega
  · have hl':decide ((L:Int) ≤ 15) = false:=decide_eq_false (by omega)
    obtain rfl:L = 16:=by omega
    have hRn':=hRn.out
    have HF:=hide (show R = (0,0,7) from hRn')
    clear hRn'
    go_wp2_with fail
    go_ret3
    exact NextP.of HF.out hbe
def codeB (ls:List Int) (x:Nat):List Bool:=natBits (codeN ls x) (lenN ls x)
theorem okL_range {ls:List Int} (h:okL ls = true) {i:Nat} {x:Int} (hx:ls[i]? = some x):0 ≤ x ∧ x ≤ 15:=by
 unfold okL at h
 simp only [Bool.and_eq_true,decide_eq_true_eq] at h
 have h:=h.1
 unfold roomW at h
 split at h
 · cases h
 · split at h
   · cases h
   · rename_i h1 h2
     have h2:ls.any (badL 15) = false:=by simpa using h2
     rw [List.any_eq_false] at h2
     have:=h2 x (List.mem_of_getElem? hx)
     simp [badL] at this
     omega
theorem codeN_lt (ls:List Int) (i:Nat) (h:ls.length ≤ 512):codeN ls i ≤ 700000000:=by
 unfold codeN
 split
 · rename_i hl
   have h1:=fstC_small h (show lenN ls i ≤ 16 by omega)
   have h2:=cntT_le ls (lenN ls i) i
   omega
 · omega
theorem nxtC_fst (ls:List Int) {l:Nat} (h:1 ≤ l):nxtC ls l = fstC ls l + cntC ls l:=by
 obtain ⟨m,rfl⟩:∃ m,l = m + 1:=⟨l - 1,by omega⟩
 rw [nxtC,fstC];rfl
theorem nxtC_up (ls:List Int) (l d:Nat):nxtC ls l * 2 ^ d ≤ nxtC ls (l + d):=by
 induction d with
 | zero => simp
 | succ d ih =>
   rw [← Nat.add_assoc,nxtC,Nat.pow_succ,← Nat.mul_assoc];omega
theorem fstC_up (ls:List Int) {l m:Nat} (h:l < m):nxtC ls l * 2 ^ (m - l) ≤ fstC ls m:=by
 have h1:=nxtC_up ls l (m - 1 - l)
 rw [show l + (m - 1 - l) = m - 1 by omega] at h1
 have h2:2 ^ (m - l) = 2 ^ (m - 1 - l) * 2:=by rw [← Nat.pow_succ];congr 1;omega
 rw [h2,← Nat.mul_assoc]
 unfold fstC;omega
theorem codeN_eq {ls:List Int} {i:Nat} {n:Nat} (hx:ls[i]? = some (n:Int)) (h1:1 ≤ n) (h15:n ≤ 15):codeN ls i = fstC ls n + cntT ls n i:=by
 unfold codeN
 rw [lenN_of hx,Int.toNat_natCast,if_pos ⟨h1,h15⟩]
theorem cntT_mono (ls:List Int) (l:Nat) {a b:Nat} (h:a ≤ b):cntT ls l a ≤ cntT ls l b:=by
 unfold cntT;exact List.Sublist.countP_le (List.take_sublist_take_left h)
theorem cntT_lt {ls:List Int} {i n k:Nat} (hx:ls[i]? = some (n:Int)) (h:i < k):cntT ls n i < cntT ls n k:=by
 have:=cntT_mono ls n (show i + 1 ≤ k by omega)
 rw [cntT_step hx,if_pos rfl] at this;omega
theorem codeN_lt_nxt {ls:List Int} {i n:Nat} (hx:ls[i]? = some (n:Int)) (h1:1 ≤ n) (h15:n ≤ 15):codeN ls i < nxtC ls n:=by
 rw [codeN_eq hx h1 h15,nxtC_fst ls h1]
 have:=cntT_lt hx (List.getElem?_eq_some_iff.1 hx).1
 unfold cntC;omega
theorem apart_long {ls:List Int} {i k n m:Nat} (hi:ls[i]? = some (n:Int)) (hk:ls[k]? = some (m:Int)) (h1:1 ≤ n) (h15:m ≤ 15) (h:n < m):codeN ls i < codeN ls k / 2 ^ (m - n):=by
 have a:=codeN_lt_nxt hi h1 (by omega)
 have b:=fstC_up ls h
 have c:=codeN_eq hk (by omega) h15
 refine Nat.lt_of_lt_of_le a ?_
 rw [Nat.le_div_iff_mul_le (Nat.two_pow_pos _)]
 omega
theorem cntC_pos {ls:List Int} {i n:Nat} (hx:ls[i]? = some (n:Int)):1 ≤ cntC ls n:=by
 have:=cntT_lt hx (List.getElem?_eq_some_iff.1 hx).1
 unfold cntC;omega
theorem symC_left {ls:List Int} {i n l:Nat} (hx:ls[i]? = some (n:Int)) (h15:n ≤ 15) (h:l < n):(symC ls 15).length ≠ (symC ls l).length:=by
 obtain ⟨m,rfl⟩:∃ m,n = m + 1:=⟨n - 1,by omega⟩
 obtain ⟨r,hr⟩:=symC_prefix ls l (m - l)
 rw [show l + (m - l) = m by omega] at hr
 have h1:=symC_step_len ls m
 have h2:=symC_len_mono ls h15
 have h3:=cntC_pos hx
 rw [hr,List.length_append] at h1
 omega
theorem next_code {ls:List Int} {s:ByteArray} {N a i n:Nat} (hx:ls[i]? = some (n:Int)) (h1:1 ≤ n) (h15:n ≤ 15) (hN:a + n ≤ N)
 (hb:∀ j,j < n → bitAt s (a + j) = (codeN ls i / 2 ^ (n - 1 - j) % 2 == 1)):∀ (d l:Nat),l + d + 1 = n → nextC ls s N a (15 - l) l (codeN ls i / 2 ^ (n - l)) = ((i:Int),((a + n:Nat):Int),(0:Int)):=by
 intro d
 induction d with
 | zero =>
   intro l hl
   rw [show 15 - l = (15 - l - 1) + 1 by omega,nextC,if_neg (symC_left hx h15 (by omega)),if_neg (by omega)]
   have hc:2 * (codeN ls i / 2 ^ (n - l)) + (bitAt s (a + l)).toNat = codeN ls i:=by
    rw [hb l (by omega),show n - l = 1 by omega,show n - 1 - l = 0 by omega]
    simp only [Nat.pow_one,Nat.pow_zero,Nat.div_one]
    rcases Nat.mod_two_eq_zero_or_one (codeN ls i) with e | e <;> rw [e] <;> simp <;> omega
   rw [hc,(findC_iff ls (codeN ls i) (l + 1) i (by omega) (by omega)).2 ⟨(List.getElem?_eq_some_iff.1 hx).1,by rw [hx];congr 1;omega,rfl⟩]
   simp only [Prod.mk.injEq,true_and,and_true]
   omega
 | succ d ih =>
   intro l hl
   rw [show 15 - l = (15 - (l + 1)) + 1 by omega,nextC,if_neg (symC_left hx h15 (by omega)),if_neg (by omega)]
   have hc:2 * (codeN ls i / 2 ^ (n - l)) + (bitAt s (a + l)).toNat = codeN ls i / 2 ^ (n - (l + 1)):=by
    rw [hb l (by omega),show n - l = (n - (l + 1)) + 1 by omega,show n - 1 - l = n - (l + 1) by omega,Nat.pow_succ,← Nat.div_div_eq_div_mul]
    generalize codeN ls i / 2 ^ (n - (l + 1)) = y
    rcases Nat.mod_two_eq_zero_or_one y with e | e <;> rw [e] <;> simp <;> omega
   rw [hc]
   have hno:findC ls (codeN ls i / 2 ^ (n - (l + 1))) (l + 1) = none:=by
    cases hf:findC ls (codeN ls i / 2 ^ (n - (l + 1))) (l + 1) with
    | none => rfl
    | some j =>
      obtain ⟨_,hj,hcj⟩:=(findC_iff ls _ (l + 1) j (by omega) (by omega)).1 hf
      have:=apart_long hj hx (by omega) h15 (by omega)
      omega
   rw [hno]
   exact ih (l + 1) (by omega)
theorem cntC_snoc (ls:List Int) (x:Int) (l:Nat):cntC (ls ++ [x]) l = cntC ls l + (if x = (l:Int) then 1 else 0):=by
 unfold cntC cntT
 rw [List.take_length,List.take_length,List.countP_append]
 by_cases h:x = (l:Int) <;> simp [h]
theorem nxtC_snoc (ls:List Int) (x:Int) (l:Nat):nxtC (ls ++ [x]) l = nxtC ls l + (if 1 ≤ x ∧ x ≤ (l:Int) then 2 ^ (l - x.toNat) else 0):=by
 induction l with
 | zero => rw [if_neg (by omega)];rfl
 | succ l ih =>
   rw [nxtC,nxtC,ih,cntC_snoc]
   by_cases h:1 ≤ x ∧ x ≤ (l:Int)
   · rw [if_pos h,if_neg (by omega),if_pos (by omega),show l + 1 - x.toNat = (l - x.toNat) + 1 by omega,Nat.pow_succ];omega
   · rw [if_neg h]
     by_cases h2:x = ((l + 1:Nat):Int)
     · rw [if_pos h2,if_pos (by omega),show l + 1 - x.toNat = 0 by omega];omega
     · rw [if_neg h2,if_neg (by omega)];omega
theorem nxtC_used (ls:List Int) (h:∀ x ∈ ls,x ≤ 15):nxtC ls 15 = usedL 15 ls:=by
 have key:∀ k,k ≤ ls.length → nxtC (ls.take k) 15 = usedL 15 (ls.take k):=by
  intro k
  induction k with
  | zero => intro _;simp [usedL];decide
  | succ k ih =>
    intro hk
    have hx:ls[k]? = some ls[k]:=List.getElem?_eq_getElem (by omega)
    have hx15:=h _ (List.mem_of_getElem? hx)
    rw [usedL_step hx,List.take_add_one,hx]
    show nxtC (ls.take k ++ [ls[k]]) 15 = _
    rw [nxtC_snoc,ih (by omega)]
    by_cases h0:0 < ls[k]
    · rw [if_pos h0,if_pos (by omega)]
    · rw [if_neg h0,if_neg (by omega)]
 have:=key ls.length (Nat.le_refl _)
 rwa [List.take_length] at this
theorem okL_all {ls:List Int} (h:okL ls = true):∀ x ∈ ls,x ≤ 15:=fun x hx => by
 obtain ⟨i,hi⟩:=List.getElem?_of_mem hx
 exact (okL_range h hi).2
theorem usedL_one {ls:List Int} (h:posL ls = 1) (h1:hasL ls 1 = true):usedL 15 ls = 16384:=by
 have hu:∀ l:List Int,usedL 15 l = usedL 15 (l.filter fun x => decide (0 < x)):=by
  intro l
  induction l with
  | nil => rfl
  | cons x l ih =>
    rw [List.filter_cons]
    by_cases hx:0 < x
    · simp only [hx,decide_true,if_true,usedL,ih]
    · simp only [hx,decide_false,if_false,usedL,ih,Bool.false_eq_true];omega
 rw [hu]
 unfold posL at h
 have hm:(1:Int) ∈ ls.filter fun x => decide (0 < x):=List.mem_filter.2 ⟨List.elem_iff.1 h1,(by decide:decide ((0:Int) < 1) = true)⟩
 match hf:ls.filter (fun x => decide (0 < x)),h with
 | [y],_ =>
   rw [hf] at hm
   simp at hm
   subst hm
   decide
theorem used_le {ls:List Int} (h:okL ls = true) (hp:posL ls ≠ 0):usedL 15 ls ≤ 32768:=by
 unfold okL at h
 simp only [Bool.and_eq_true,Bool.or_eq_true,decide_eq_true_eq] at h
 rcases h.2 with (h | h) | h
 · omega
 · exact absurd h hp
 · rw [usedL_one h.1 h.2];omega
theorem posL_pos {ls:List Int} {i n:Nat} (hx:ls[i]? = some (n:Int)) (h1:1 ≤ n):posL ls ≠ 0:=by
 unfold posL
 have:(n:Int) ∈ ls.filter (fun x => decide (0 < x)):=List.mem_filter.2 ⟨List.mem_of_getElem? hx,by simp;omega⟩
 intro h
 rw [List.eq_nil_of_length_eq_zero h] at this
 cases this
theorem codeN_lt_pow {ls:List Int} {i n:Nat} (hok:okL ls = true) (hx:ls[i]? = some (n:Int)) (h1:1 ≤ n) (h15:n ≤ 15):codeN ls i < 2 ^ n:=by
 have a:=codeN_lt_nxt hx h1 h15
 have b:=nxtC_up ls n (15 - n)
 rw [show n + (15 - n) = 15 by omega,nxtC_used ls (okL_all hok)] at b
 have c:=used_le hok (posL_pos hx h1)
 have d:2 ^ n * 2 ^ (15 - n) = 32768:=by rw [← Nat.pow_add,show n + (15 - n) = 15 by omega]
 refine Nat.lt_of_lt_of_le a ?_
 exact Nat.le_of_mul_le_mul_right (by omega:nxtC ls n * 2 ^ (15 - n) ≤ 2 ^ n * 2 ^ (15 - n)) (Nat.two_pow_pos _)
theorem next_inv {ls:List Int} {s:ByteArray} {N a:Nat} {x a':Int}:∀ (f l:Nat),f + l = 15 → nextC ls s N a f l (getN s a l) = (x,a',0) →
 ∃ i n:Nat,ls[i]? = some (n:Int) ∧ l < n ∧ n ≤ 15 ∧ a + n ≤ N ∧ codeN ls i = getN s a n ∧ x = (i:Int) ∧ a' = ((a + n:Nat):Int):=by
 intro f
 induction f with
 | zero =>
   intro l _ h
   rw [nextC] at h
   simp at h
 | succ f ih =>
   intro l hl h
   rw [nextC] at h
   by_cases h1:(symC ls 15).length = (symC ls l).length
   · rw [if_pos h1] at h;simp at h
   · rw [if_neg h1] at h
     by_cases h2:N < a + (l + 1)
     · rw [if_pos h2] at h;simp at h
     · rw [if_neg h2] at h
       have e:2 * getN s a l + (bitAt s (a + l)).toNat = getN s a (l + 1):=rfl
       rw [e] at h
       cases hf:findC ls (getN s a (l + 1)) (l + 1) with
       | some i =>
         rw [hf] at h
         simp only [Prod.mk.injEq] at h
         obtain ⟨_,h3,h4⟩:=(findC_iff ls _ (l + 1) i (by omega) (by omega)).1 hf
         exact ⟨i,l + 1,h3,by omega,by omega,by omega,h4,h.1.symm,by rw [← h.2.1];rfl⟩
       | none =>
         rw [hf] at h
         obtain ⟨i,n,h3,h4,h5,h6,h7,h8,h9⟩:=ih (l + 1) (by omega) h
         exact ⟨i,n,h3,by omega,h5,h6,h7,h8,h9⟩
theorem codeB_length {ls:List Int} {i n:Nat} (hx:ls[i]? = some (n:Int)):(codeB ls i).length = n:=by unfold codeB;rw [natBits_length,lenN_of hx,Int.toNat_natCast]
theorem next_read {ls:List Int} {s:ByteArray} {N a:Nat} {x a':Int} (h:nextC ls s N a 15 0 0 = (x,a',0)) :
 ∃ i n:Nat,ls[i]? = some (n:Int) ∧ 1 ≤ n ∧ n ≤ 15 ∧ a + n ≤ N ∧ x = (i:Int) ∧ a' = ((a + n:Nat):Int) ∧ (bitsL s N).drop a = codeB ls i ++ (bitsL s N).drop (a + n):=by
 obtain ⟨i,n,h1,h2,h3,h4,h5,h6,h7⟩:=next_inv 15 0 (by omega) h
 refine ⟨i,n,h1,by omega,h3,h4,h6,h7, ?_⟩
 have e:codeB ls i = ((bitsL s N).drop a).take n:=by
  unfold codeB
  rw [lenN_of h1,Int.toNat_natCast,h5,natBits_getN,bits_seg s h4]
 rw [e,← List.drop_drop,List.take_append_drop]
theorem next_there {ls:List Int} {s:ByteArray} {N a i n:Nat} {r:List Bool} (hok:okL ls = true) (hx:ls[i]? = some (n:Int)) (h1:1 ≤ n) (h15:n ≤ 15) (h:(bitsL s N).drop a = codeB ls i ++ r) :
 nextC ls s N a 15 0 0 = ((i:Int),((a + n:Nat):Int),(0:Int)) ∧ (bitsL s N).drop (a + n) = r ∧ a + n ≤ N:=by
 have hl:=codeB_length hx
 have hlen:=congrArg List.length h
 rw [List.length_drop,List.length_append,hl,bitsL_length] at hlen
 have hN:a + n ≤ N:=by omega
 have hz:codeN ls i / 2 ^ (n - 0) = 0:=by
  have h2:=codeN_lt_pow hok hx h1 h15
  rw [Nat.sub_zero];exact Nat.div_eq_of_lt h2
 have:=next_code (s:=s) (N:=N) (a:=a) hx h1 h15 hN (fun j hj => by
  have e:((bitsL s N).drop a)[j]? = (codeB ls i ++ r)[j]?:=by rw [h]
  rw [List.getElem?_drop,bitsL_get s (by omega),List.getElem?_append_left (by omega)] at e
  unfold codeB at e
  rw [lenN_of hx,Int.toNat_natCast,natBits_get _ _ _ hj] at e
  simpa using e) (n - 1) 0 (by omega)
 rw [hz] at this
 refine ⟨this, ?_,hN⟩
 rw [← List.drop_drop,h,← hl,List.drop_left]
theorem info_intT:(Tryz.prog.info? 3).map (fun i => (i.zero,i.size,i.bytes)) = some (some (.int .i64 0),1,8):=by kernel_rfl
set_option maxHeartbeats 4000000 in
theorem tlengths_any (p:Nat) (s:ByteArray) (N a0 n:Nat) (q0 q1:Addr) (w:World) (hr:Rdr w p s N a0) (hS:Sents w (ers q0) (ers q1)) (hN:N ≤ 1048576) (hs:s.size = (N + 7) / 8) (ha:a0 ≤ N) (hn:n ≤ 512) (hn1:1 ≤ n) (hp:3 ≤ p) :
 Calls Tryz.prog 128 #[.pointer (some ⟨p,0,none⟩),.int .i64 n] w (RLensP p s N n (readT s N a0 n) (ers q0) (ers q1) w):=by
 by_cases g4:N < a0 + 4
 · have T1:=take_no p s N a0 4 (ers q0) (ers q1) w hr hS hN hs ha (by decide) g4
   have HT1:=hide T1
   have hx:readT s N a0 n = (5,[],[]):=if_pos g4
   have HX:=hide hx
   clear T1 hx hr hS hs
   go_enter Tryz.func128,Tryz.ntmps128
   go_wp2_with (go_at_call 176;refine (Calls.mono HT1.out ?_);rintro e w1 ⟨rfl,j,rfl⟩)
   go_ret2
   exact ⟨(Fr.refl _ _).drewN j,.inr (.inl (by rw [HX.out];exact ⟨rfl,_,rfl⟩))⟩
 · have T1:=take_yes p s N a0 4 (ers q0) (ers q1) w hr hS hN hs (by omega) (by decide)
   obtain ⟨V,hV⟩:∃ V,V = getN s a0 4:=⟨_,rfl⟩
   have hVb:V ≤ 15:=by
    have h1:=getN_lt s a0 4
    rw [hV];omega
   rw [← hV] at T1
   obtain ⟨X,hX⟩:∃ X,X = lensT n true ((bitsL s N).drop (a0 + 4)) V:=⟨_,rfl⟩
   have hread:readT s N a0 n = if X.1 = 0 then (if okL (X.2.1.map Int.ofNat) then X else (7,[],[])) else X:=by
    unfold readT;rw [if_neg g4,← hV,← hX]
   have HX:=hide hX
   have HT1:=hide T1
   have HRd:=hide hread
   have HSz:=hide hs
   have sents:∀ w1,Fr (fun g => g = p) w w1 → Sents w1 (ers q0) (ers q1):=fun w1 h => hS.fr h (fun g h1 h2 => by omega)
   have HSn:=hide sents
   have hmk:=run_make_row' (P:=Tryz.prog) 74 3 (.int .i64 0) 8 Tryz.underlying74 info_intT rfl .i64 .i64 n (by omega) (by omega)
   have hpl:p < w.heap.size:=hr.lt
   clear hV hX hread T1 hr hS hs sents
   go_enter Tryz.func128,Tryz.ntmps128
   go_wp2_with (go_at_call 176;refine (Calls.mono HT1.out ?_);rintro e w1 ⟨rfl,hr1,hf1⟩;have HR1:=hide hr1;have HF1:=hide hf1;have hsz:=hf1.size;clear hr1 hf1)
   go_loopw [6,24] (fun nw i wr => ∃ (a now:Nat) (done:List Nat),nw = .int .i64 now ∧ i = .int .i64 done.length ∧ done.length ≤ n ∧ a ≤ N ∧ now ≤ 15 ∧ Hid (Rdr wr p s N a) ∧ Hid (Bk wr w1.heap.size 3 (lensC done n)) ∧ Hid (Fr (fun g => g = p) w wr) ∧ Hid (restT done (lensT (n - done.length) (decide (done.length = 0)) ((bitsL s N).drop a) now) = X)) (fun _ i _ => n - (intOf i).toNat)
   case atStart =>
    refine ⟨a0 + 4,V,[],rfl,rfl,by simp,by omega,hVb,hide (Bk.alloc HR1.out _),hide (by rw [lensC_nil];exact Bk.new _ _ _),hide (HF1.out.alloc _),hide ?_⟩
    rw [HX.out];exact restT_nil
   case round =>
    clear HX HR1 HF1
    obtain ⟨a,now,done,rfl,rfl,hk,haN,hnow,HR,HB,HF,HX⟩:=hrel
    obtain ⟨k,hke⟩:∃ k,k = done.length:=⟨_,rfl⟩
    have HKe:=hide hke
    rw [← hke] at hk HX ⊢
    clear hke
    have S:=HSn.out _ HF.out
    have HS:=hide S
    by_cases hlt:k < n
    · clear S
      obtain ⟨m,hm⟩:∃ m,n - k = m + 1:=⟨n - k - 1,by omega⟩
      have hx:=HX.out
      rw [hm] at hx
      have HX2:=hide hx
      have HM:=hide hm
      clear hx hm HX
      obtain ⟨⟨K,l,r⟩,hy⟩:∃ y,nextT ((bitsL s N).drop a) now 0 = y:=⟨_,rfl⟩
      have HY:=hide hy
      have hkd:=nextT_kind _ ((bitsL s N).drop a) now 0 (Nat.le_refl _)
      rw [hy] at hkd
      clear hy
      rcases hkd with h0 | h5 | h7
      · simp only at h0
        subst h0
        have T2:=tnext_l p s N a now q0 q1 wr HR.out HS.out hN HSz.out haN hnow hp HY.out
        have HT2:=hide T2
        clear T2
        by_cases hk0:k = 0
        · by_cases hln:l = now
          · have lb:((l:Int) != (now:Int)) = false:=by simp [hln]
            have kb:((k:Int) == 0) = true:=by simp [hk0]
            have hx:=HX2.out
            rw [restT_on (by rw [HY.out]) (fun _ => by rw [HY.out];exact hln),HY.out] at hx
            have HX3:=hide hx
            clear hx
            clear hk0 hln
            go_wp2_with (go_at_call 177;refine (Calls.mono HT2.out ?_);rintro e w2 ⟨rfl,hf2,hl,a',ha',hrr,hr2⟩;have HF2:=hide hf2;have HRR:=hide hrr;have HR2:=hide hr2;have hs2:w2.cell? ⟨2,0,none⟩ = some (ers q1):=(HSn.out _ (HF.out.trans hf2 (fun _ h => .inl h))).2;have hb2:Bk w2 w1.heap.size 3 (lensC done n):=HB.out.fr hf2 (by show ¬ (w1.heap.size = p);omega);have k0:w2.cell? ⟨w1.heap.size,k,none⟩ = some (.int .i64 0):=(hb2.cell k).trans (by have:=HKe.out;subst this;exact lensC_get hlt);have k1:=hb2.free k;have HB2:=hide hb2;clear hf2 hrr hr2 hb2)
            go_roundw
            case rel =>
             have hke:=HKe.out
             subst hke
             refine ⟨a',l,done ++ [l],rfl, ?_,by simp;omega,ha',hl,hide (HR2.out.far (by show p ≠ w1.heap.size;omega) _),hide ?_,hide ((HF.out.trans HF2.out (fun _ h => .inl h)).setCell (.inr hsz) _),hide ?_⟩
             · exact v_int (by simp)
             · have:=HB2.out.set_ done.length (.int .i64 l)
               rwa [lensC_set hlt] at this
             · have:=HX3.out
               rw [HRR.out] at this
               rw [show n - (done ++ [l]).length = m by have:=HM.out;simp;omega,show decide ((done ++ [l]).length = 0) = false by simp]
               exact this
            case measure => simp [intOf];omega
          · have lb:((l:Int) != (now:Int)) = true:=by simp;omega
            have kb:((k:Int) == 0) = true:=by simp [hk0]
            have hx:=HX2.out
            rw [show decide (k = 0) = true by simp [hk0],restT_first (by rw [HY.out]) (by rw [HY.out];exact hln)] at hx
            have HX3:=hide hx
            clear hx hk0 hln
            go_wp2_with (go_at_call 177;refine (Calls.mono HT2.out ?_);rintro e w2 ⟨rfl,hf2,hl,a',ha',hrr,hr2⟩;have HF2:=hide hf2;have HRR:=hide hrr;have HR2:=hide hr2;have hs2:w2.cell? ⟨2,0,none⟩ = some (ers q1):=(HSn.out _ (HF.out.trans hf2 (fun _ h => .inl h))).2;have hb2:Bk w2 w1.heap.size 3 (lensC done n):=HB.out.fr hf2 (by show ¬ (w1.heap.size = p);omega);have k0:w2.cell? ⟨w1.heap.size,k,none⟩ = some (.int .i64 0):=(hb2.cell k).trans (by have:=HKe.out;subst this;exact lensC_get hlt);have k1:=hb2.free k;have HB2:=hide hb2;clear hf2 hrr hr2 hb2)
            go_ret2
            exact ⟨HF.out.trans HF2.out (fun _ h => .inl h),.inr (.inr (by rw [HRd.out,← HX3.out];exact ⟨rfl,_,rfl⟩))⟩
        · have kb:((k:Int) == 0) = false:=by simp;omega
          have hx:=HX2.out
          rw [restT_on (by rw [HY.out]) (fun h => absurd (of_decide_eq_true h) hk0),HY.out] at hx
          have HX3:=hide hx
          clear hx
          clear hk0
          go_wp2_with (go_at_call 177;refine (Calls.mono HT2.out ?_);rintro e w2 ⟨rfl,hf2,hl,a',ha',hrr,hr2⟩;have HF2:=hide hf2;have HRR:=hide hrr;have HR2:=hide hr2;have hs2:w2.cell? ⟨2,0,none⟩ = some (ers q1):=(HSn.out _ (HF.out.trans hf2 (fun _ h => .inl h))).2;have hb2:Bk w2 w1.heap.size 3 (lensC done n):=HB.out.fr hf2 (by show ¬ (w1.heap.size = p);omega);have k0:w2.cell? ⟨w1.heap.size,k,none⟩ = some (.int .i64 0):=(hb2.cell k).trans (by have:=HKe.out;subst this;exact lensC_get hlt);have k1:=hb2.free k;have HB2:=hide hb2;clear hf2 hrr hr2 hb2)
          go_roundw
          case rel =>
           have hke:=HKe.out
           subst hke
           refine ⟨a',l,done ++ [l],rfl, ?_,by simp;omega,ha',hl,hide (HR2.out.far (by show p ≠ w1.heap.size;omega) _),hide ?_,hide ((HF.out.trans HF2.out (fun _ h => .inl h)).setCell (.inr hsz) _),hide ?_⟩
           · exact v_int (by simp)
           · have:=HB2.out.set_ done.length (.int .i64 l)
             rwa [lensC_set hlt] at this
           · have:=HX3.out
             rw [HRR.out] at this
             rw [show n - (done ++ [l]).length = m by have:=HM.out;simp;omega,show decide ((done ++ [l]).length = 0) = false by simp]
             exact this
          case measure => simp [intOf];omega
      · simp only at h5
        subst h5
        have T2:=tnext_0 p s N a now q0 q1 wr HR.out HS.out hN HSz.out haN hnow hp (by rw [HY.out])
        have HT2:=hide T2
        have hx:=HX2.out
        rw [restT_stop (k:=5) (by rw [HY.out]) (by decide)] at hx
        have HX3:=hide hx
        clear T2 hx
        go_wp2_with (go_at_call 177;refine (Calls.mono HT2.out ?_);rintro e w2 ⟨⟨v,rfl⟩,hf2⟩;have HF2:=hide hf2;clear hf2)
        go_ret2
        exact ⟨HF.out.trans HF2.out (fun _ h => .inl h),.inr (.inl (by rw [HRd.out,← HX3.out];exact ⟨rfl,_,rfl⟩))⟩
      · simp only at h7
        subst h7
        have T2:=tnext_1 p s N a now q0 q1 wr HR.out HS.out hN HSz.out haN hnow hp (by rw [HY.out])
        have HT2:=hide T2
        have hx:=HX2.out
        rw [restT_stop (k:=7) (by rw [HY.out]) (by decide)] at hx
        have HX3:=hide hx
        clear T2 hx
        go_wp2_with (go_at_call 177;refine (Calls.mono HT2.out ?_);rintro e w2 ⟨⟨v,rfl⟩,hf2⟩;have HF2:=hide hf2;clear hf2)
        go_ret2
        exact ⟨HF.out.trans HF2.out (fun _ h => .inl h),.inr (.inr (by rw [HRd.out,← HX3.out];exact ⟨rfl,_,rfl⟩))⟩
    · obtain rfl:k = n:=by omega
      have hx:=HX.out
      rw [Nat.sub_self,lensT] at hx
      have hx2:X = (0,done,(bitsL s N).drop a):=by rw [← hx];unfold restT;rw [if_pos rfl];simp
      have hb:=HB.out
      rw [lensC_full HKe.out.symm] at hb
      have ck:=tcanon w1.heap.size k k done wr hb HKe.out.symm hn
      have HCk:=hide ck
      have HB2:=hide hb
      have hs2:wr.cell? ⟨2,0,none⟩ = some (ers q1):=S.2
      by_cases hok:okL (done.map Int.ofNat) = true
      · have hread:=HRd.out
        rw [hx2] at hread
        simp only [hok,if_true] at hread
        have HR3:=hide hread
        have ow:okW (done.map Int.ofNat) = 0:=by simp [okW,hok]
        rw [ow] at ck
        have HCk:=hide ck
        clear ck hb hok hread ow hx hx2 S hs2 HX
        go_wp2_with (go_at_call 178;refine (Calls.mono HCk.out ?_);rintro e w2 ⟨rfl,hww⟩;replace hww:=hww.symm;subst hww)
        go_ret2
        rw [HR3.out]
        exact ⟨HF.out,.inl ⟨rfl,a,_,w1.heap.size,haN,rfl,rfl,hsz,HB2.out,HR.out⟩⟩
      · have hread:=HRd.out
        rw [hx2] at hread
        simp only [hok,if_true] at hread
        have HR3:=hide hread
        have ow:okW (done.map Int.ofNat) = 7:=by simp [okW,hok]
        rw [ow] at ck
        have HCk:=hide ck
        clear ck hb hok hread ow hx hx2 S HX
        go_wp2_with (go_at_call 178;refine (Calls.mono HCk.out ?_);rintro e w2 ⟨rfl,hww⟩;replace hww:=hww.symm;subst hww)
        go_region
        go_wp2_with fail
        go_ret2
        rw [HR3.out]
        exact ⟨HF.out.drewN _,.inr (.inr ⟨rfl,_,rfl⟩)⟩
end Go.Proofs.YtcfnjpokfodmoaaGreatDoor
