/- Lemmas for the row: AudRep. -/
import Derived.Test.YtcfnjpokfodmoaaGreatDoorM38
import Derived.Test.YtcfnjpokfodmoaaGreatDoorM40
set_option maxRecDepth 100000
set_option linter.unusedVariables false
namespace Go.Proofs.YtcfnjpokfodmoaaGreatDoor
open Go.RowKit
theorem Pow10.lt {w:World} (h:Pow10 w):4 < w.heap.size:=by
 have hg:Tryz.prog.globalNamed "internal/strconv.uint64pow10" = some 4:=by kernel_rfl
 unfold Pow10 Lib.TabIs World.var? at h
 simp only [hg,Option.bind_some] at h
 rcases Nat.lt_or_ge 4 w.heap.size with h' | h'
 · exact h'
 · rw [Array.getElem?_eq_none h'] at h;simp at h
def four (h:Hd):List Nat:=[h.cnt,h.prim,h.segs,h.bits]
def RepP (s:List Nat) (w:World) (e:Ending) (w':World):Prop :=
 (((openR s).1 ≠ 0 ∧ e = .returned (.tuple #[.string ⟨#[]⟩,.int .i64 (openR s).1])) ∨ ((openR s).1 = 0 ∧ ∃ ls,segsT s = some ls ∧ e = .returned (.tuple #[.string (strOf (repL ls (four (fieldsL s)))),.int .i64 0]))) ∧ Below w.heap.size w w'
theorem flat6_get:∀ {ls:List (List Nat)},(∀ l ∈ ls,l.length = 6) → ∀ {k:Nat} {l:List Nat},ls[k]? = some l → ∀ {i:Nat},i < 6 → (flat6 ls)[6 * k + i]? = some (.int .i64 (l.getD i 0:Nat)):=by
 intro ls
 induction ls with
 | nil => intro _ k l h;simp at h
 | cons x ls ih =>
   intro h6 k l h i hi
   have hx:=h6 x (by simp)
   have e:flat6 (x :: ls) = (x.map fun (x:Nat) => Value.int .i64 x) ++ flat6 ls:=by unfold flat6;simp
   rw [e]
   cases k with
   | zero =>
     have hxl:x = l:=by simpa using h
     subst hxl
     rw [List.getElem?_append_left (by rw [List.length_map];omega),Nat.mul_zero,Nat.zero_add,List.getElem?_map,List.getD_eq_getElem?_getD]
     cases hg:x[i]? with
     | none => rw [List.getElem?_eq_none_iff] at hg;omega
     | some y => rfl
   | succ k =>
     rw [List.getElem?_append_right (by rw [List.length_map];omega),List.length_map,hx]
     have:=ih (fun l hl => h6 l (List.mem_cons_of_mem _ hl)) (k:=k) (l:=l) (by simpa using h) hi
     rw [← this]
     congr 1
     omega
theorem lines_len {ls:List (List Nat)} (h6:∀ l ∈ ls,l.length = 6 ∧ ∀ n ∈ l,n < 18446744073709551616):(ls.flatMap lineL).length ≤ 127 * ls.length:=by
 induction ls with
 | nil => simp
 | cons l ls ih =>
   obtain ⟨h,hn⟩:=h6 l (by simp)
   have h1:=joinL_len hn
   have h2:=ih (fun x hx => h6 x (List.mem_cons_of_mem _ hx))
   rw [List.flatMap_cons,List.length_append,List.length_cons]
   unfold lineL at h2 ⊢
   rw [List.length_append]
   simp only [List.length_cons,List.length_nil]
   omega
theorem joinL_lt (l:List Nat):∀ x ∈ joinL l,x < 256:=by
 induction l with
 | nil => intro x hx;simp [joinL] at hx
 | cons a l ih =>
   intro x hx
   cases l with
   | nil => have:=digL_dig a (Nat.le_refl a) x hx;omega
   | cons c l =>
     rw [joinL] at hx
     rcases List.mem_append.1 hx with hx | hx
     · have:=digL_dig a (Nat.le_refl a) x hx;omega
     · rcases List.mem_cons.1 hx with rfl | hx
       · omega
       · exact ih x hx
theorem lineL_lt (l:List Nat):∀ x ∈ lineL l,x < 256:=by
 intro x hx
 unfold lineL at hx
 rcases List.mem_append.1 hx with hx | hx
 · exact joinL_lt l x hx
 · rw [List.mem_singleton.1 hx];omega
theorem repL_lt (ls:List (List Nat)) (h:List Nat):∀ x ∈ repL ls h,x < 256:=by
 intro x hx
 unfold repL at hx
 rcases List.mem_append.1 hx with hx | hx
 · obtain ⟨l,_,hx⟩:=List.mem_flatMap.1 hx
   exact lineL_lt l x hx
 · exact lineL_lt h x hx
set_option maxHeartbeats 4000000 in
theorem report_any (s:ByteArray) (q0 q1:Addr) (w:World) (hS:Sent2 w q0 q1) (hT:ErrT w) (hP:Pow10 w) (h64:s.size ≤ 1000000):Calls Tryz.prog 27 #[.string s] w (RepP (strL s) w):=by
 have sg:=segments_any s q0 q1 w hS hT h64
 obtain ⟨z,t,hR⟩:∃ z t,openR (strL s) = (z,t):=⟨_,_,rfl⟩
 by_cases hz:z = 0
 · subst hz
   have ho:=openR_opened.1 hR
   obtain ⟨c,g1,g2,g3,g4,g5,g6,g7⟩:=opened_stats ho
   have hgd:=(stats_good c.length freshL c (Nat.le_refl _) fresh_ok g1).1
   have h6:=statsL_six c
   have hln:(statsL c).length ≤ 8:=by
    have:(statsL c).length = segsN c.length:=statsB_len _ _ _ (Nat.le_refl _)
    rw [this];unfold segsN;omega
   have hd:=fun (W:World) (hW:Below w.heap.size w W) => headN_any s W h64 (hT.keep hW)
   have hw0:headW (strL s) = 0:=ho.1
   unfold headH at hd
   rw [if_pos hw0,hw0] at hd
   have hfl:=fields_lt (s:=strL s) (strL_lt s) (by have:=(headW_zero hw0).1;omega)
   obtain ⟨H,hH⟩:∃ H,H = fieldsL (strL s):=⟨_,rfl⟩
   rw [← hH] at hd hfl
   obtain ⟨x0,x1,x2,x3,x4⟩:=H
   have hd2:∀ (W:World),Below w.heap.size w W → Calls Tryz.prog 17 #[.string s] W fun e w' => e = .returned (.tuple #[.agg #[.int .u64 x0,.int .u64 x1,.int .u32 x2,.int .u64 x3,.int .u64 x4],.int .i64 0]) ∧ Below W.heap.size W w':=fun W hW => hd W hW
   obtain ⟨f0,f1,f2,f3,f4⟩:=hfl
   have sg2:Calls Tryz.prog 26 #[.string s] w fun e w' => ∃ A k,e = .returned (.tuple #[.slice A (statsL c).length k,.int .i64 0]) ∧ Rd w' w'.heap.size A (flat6 (statsL c)) ∧ Below w.heap.size w w':=sg.mono fun e w' hh => by
    rcases hh with ⟨⟨h,_⟩ | ⟨_,A,k,ls,h1,h2,h3,_⟩,hb⟩
    · rw [hR] at h;exact absurd rfl h
    · rw [g7] at h1;cases h1;exact ⟨A,k,h2,h3,hb⟩
   obtain ⟨ls,hls⟩:∃ ls,ls = statsL c:=⟨_,rfl⟩
   have hgd2:∀ x ∈ ls,goodS x:=fun x hx => hgd x (by rw [hls] at hx;exact hx)
   rw [← hls] at sg2 hln h6 g7
   have HSg:=hide sg2
   have HHd:=hide hd2
   have HG:=hide hgd2
   have HH6:=hide h6
   have HG7:=hide g7
   have HR:=hide hR
   have HP:=hide hP
   have HH:=hide hH
   clear sg sg2 hd hd2 hgd hgd2 h6 g1 g3 g4 g5 g6 g7 hls hS hT hR hP ho hw0 hH
   go_enter Tryz.func27,Tryz.ntmps27
   go_upto_region 4 with (go_at_call 26;refine (Calls.mono HSg.out ?_);rintro e w1 ⟨A,k1,rfl,hr,hb1⟩;have HB1:=hide hb1;have HRd:=hide hr;clear hb1 hr)
   go_wp2_with fail
   have hbd:Bd (w1.alloc (.cells #[.pointer none,.slice none 0 0] 85)) w1.heap.size []:=Bd.new _
   have HBd:=hide hbd
   clear hbd
   go_loopw [21] (fun i wr => ∃ k:Nat,i = .int .i64 k ∧ k ≤ ls.length ∧ Hid (Bd wr w1.heap.size ((ls.take k).flatMap lineL)) ∧ Hid (Below w1.heap.size w1 wr)) (fun i _ => ls.length - (intOf i).toNat)
   case atStart => exact ⟨0,rfl,by omega,hide (by rw [List.take_zero];exact HBd.out),hide ((Below.refl _ _).alloc (Nat.le_refl _) _)⟩
   case round =>
    clear HBd
    obtain ⟨k,rfl,hk,hbd,hbe⟩:=hrel
    have hb64:∀ l ∈ ls,l.length = 6 ∧ ∀ n ∈ l,n < 18446744073709551616:=fun l hl => ⟨HH6.out l hl,fun n hn => by
     obtain ⟨a,b,c,d,e,f,rfl,q⟩:=HG.out l hl
     simp at hn
     omega⟩
    have hll:=lines_len (ls:=ls.take k) (fun l hl => hb64 l (List.mem_of_mem_take hl))
    rw [List.length_take] at hll
    have hll2:((ls.take k).flatMap lineL).length ≤ 2000:=by omega
    by_cases hlt:k < ls.length
    · obtain ⟨l,hl⟩:∃ l,ls[k]? = some l:=⟨ls[k],by simp [hlt]⟩
      have hlm:=List.mem_of_getElem? hl
      obtain ⟨n0,n1,n2,n3,n4,n5,rfl,q⟩:=HG.out l hlm
      have gx:=fun (i:Nat) (hi:i < 6) => flat6_get HH6.out hl hi
      obtain ⟨bb,oo,hA,hbb,y0⟩:=HRd.out (6 * k + 0) _ (gx 0 (by omega))
      subst hA
      have gy:=fun (i:Nat) (hi:i < 6) => show wr.cell? ⟨bb,oo + (6 * k + i),none⟩ = some (.int .i64 ([n0,n1,n2,n3,n4,n5].getD i 0:Nat)) from by
       obtain ⟨b2,o2,hA2,_,hc⟩:=HRd.out (6 * k + i) _ (gx i hi)
       simp only [Option.some.injEq,Addr.mk.injEq,and_true] at hA2
       obtain ⟨rfl,rfl⟩:=hA2
       rw [hbe.out.cell (p:=⟨bb,oo + (6 * k + i),none⟩) hbb]
       exact hc
      have z0:wr.cell? ⟨bb,oo + k * 6,none⟩ = some (.int .i64 (n0:Nat)):=by have:=gy 0 (by omega);rwa [show oo + (6 * k + 0) = oo + k * 6 by omega] at this
      have z1:wr.cell? ⟨bb,oo + k * 6 + 1,none⟩ = some (.int .i64 (n1:Nat)):=by have:=gy 1 (by omega);rwa [show oo + (6 * k + 1) = oo + k * 6 + 1 by omega] at this
      have z2:wr.cell? ⟨bb,oo + k * 6 + 2,none⟩ = some (.int .i64 (n2:Nat)):=by have:=gy 2 (by omega);rwa [show oo + (6 * k + 2) = oo + k * 6 + 2 by omega] at this
      have z3:wr.cell? ⟨bb,oo + k * 6 + 3,none⟩ = some (.int .i64 (n3:Nat)):=by have:=gy 3 (by omega);rwa [show oo + (6 * k + 3) = oo + k * 6 + 3 by omega] at this
      have z4:wr.cell? ⟨bb,oo + k * 6 + 4,none⟩ = some (.int .i64 (n4:Nat)):=by have:=gy 4 (by omega);rwa [show oo + (6 * k + 4) = oo + k * 6 + 4 by omega] at this
      have z5:wr.cell? ⟨bb,oo + k * 6 + 5,none⟩ = some (.int .i64 (n5:Nat)):=by have:=gy 5 (by omega);rwa [show oo + (6 * k + 5) = oo + k * 6 + 5 by omega] at this
      have hn5:n5 ≤ 8000:=by omega
      obtain ⟨q1,q2,q3,q4,q5,q6,q7,q8,q9,q10⟩:=q
      have hL6:∀ n ∈ [n0,n1,n2,n3,n4,n5],n < 18446744073709551616:=(hb64 _ hlm).2
      have htk:(ls.take (k + 1)).flatMap lineL = (ls.take k).flatMap lineL ++ lineL [n0,n1,n2,n3,n4,n5]:=by rw [List.take_add_one,hl,List.flatMap_append];simp
      have hPw:=HP.out.below (HB1.out.trans (hbe.out.mono HB1.out.size))
      have hPb:4 < w1.heap.size:=Nat.lt_of_lt_of_le HP.out.lt HB1.out.size
      have ln:=fun (W:World) (g cc:Nat) (hW:Below wr.heap.size wr W) (hk:Bk W g 22 ([n0,n1,n2,n3,n4,n5].map u64V).toArray) (hg:g ≠ w1.heap.size) => line_any w1.heap.size g cc _ [n0,n1,n2,n3,n4,n5] W (hbd.out.below hW) hk hg (hPw.below hW) hPb hL6 (by simp) (Nat.le_trans hll2 (by decide))
      have hblt:=hbd.out.lt
      have HLn:=hide ln
      have HTk:=hide htk
      have bk6:∀ (W:World) (o:Obj),Bk ((W.alloc o).alloc (.cells #[.int .u64 (n0:Nat),.int .u64 (n1:Nat),.int .u64 (n2:Nat),.int .u64 (n3:Nat),.int .u64 (n4:Nat),.int .u64 (n5:Nat)] 22)) (W.heap.size + 1) 22 ([n0,n1,n2,n3,n4,n5].map u64V).toArray:=fun W o => Bk.new1 W o _ _
      have HBk6:=hide bk6
      clear gx gy y0 hl hlm hll hL6 htk hPw ln bk6
      go_wp2_with (go_at_call 58;refine (Calls.mono (HLn.out _ _ _ (((Below.refl _ _).alloc (Nat.le_refl _) _).alloc (by simp) _) (HBk6.out _ _) (by omega)) ?_);rintro e w5 ⟨rfl,hb5,hbe5,_⟩;have HB5:=hide hb5;have HBe5:=hide (((hbe.out.alloc hbe.out.size _).alloc (by have:=hbe.out.size;simp;omega) _).trans hbe5);clear hb5 hbe5)
      go_roundw
      case rel => exact ⟨k + 1,by go_num,by omega,hide (by rw [HTk.out];exact HB5.out),HBe5⟩
      case measure => simp [intOf];omega
    · have hke:k = ls.length:=by omega
      subst hke
      rw [List.take_length] at hbd hll2
      have hPw:=HP.out.below (HB1.out.trans (hbe.out.mono HB1.out.size))
      have hPb:4 < w1.heap.size:=Nat.lt_of_lt_of_le HP.out.lt HB1.out.size
      have hL4:∀ n ∈ [x0,x1,x3,x4],n < 18446744073709551616:=by intro n hn;simp at hn;omega
      have ln:=fun (W:World) (g cc:Nat) (hW:Below wr.heap.size wr W) (hk:Bk W g 22 ([x0,x1,x3,x4].map u64V).toArray) (hg:g ≠ w1.heap.size) => line_any w1.heap.size g cc _ [x0,x1,x3,x4] W (hbd.out.below hW) hk hg (hPw.below hW) hPb hL4 (by simp) (Nat.le_trans hll2 (by decide))
      have bk4:∀ (W:World),Bk (W.alloc (.cells #[.int .u64 (x0:Nat),.int .u64 (x1:Nat),.int .u64 (x3:Nat),.int .u64 (x4:Nat)] 22)) W.heap.size 22 ([x0,x1,x3,x4].map u64V).toArray:=fun W => Bk.new W _ _
      have hfin:ls.flatMap lineL ++ lineL [x0,x1,x3,x4] = repL ls (four (fieldsL (strL s))):=by rw [← HH.out];rfl
      have hblt:=hbd.out.lt
      have HBk4:=hide bk4
      have HLn:=hide ln
      have HFin:=hide hfin
      have HBw:=hide (HB1.out.trans (hbe.out.mono HB1.out.size))
      have hws:w.heap.size ≤ w1.heap.size:=HB1.out.size
      clear hPw ln hL4 bk4 hfin hb64 hll
      go_upto_region 11 with (go_at_call 17;refine (Calls.mono (HHd.out wr HBw.out) ?_);rintro e w5 ⟨rfl,hb5⟩;have HB5:=hide hb5;clear hb5)
      have k9:Bk (w5.alloc (.cells #[.int .u64 x0,.int .u64 x1,.int .u32 x2,.int .u64 x3,.int .u64 x4] 25)) w5.heap.size 25 #[.int .u64 x0,.int .u64 x1,.int .u32 x2,.int .u64 x3,.int .u64 x4]:=Bk.new w5 _ _
      have hb6:Below wr.heap.size wr (w5.alloc (.cells #[.int .u64 x0,.int .u64 x1,.int .u32 x2,.int .u64 x3,.int .u64 x4] 25)):=HB5.out.alloc HB5.out.size _
      obtain ⟨⟨c0,c1,c2,c3,c4⟩,_⟩:=five_cells k9
      obtain ⟨W6,hW6⟩:∃ W,W = w5.alloc (.cells #[.int .u64 x0,.int .u64 x1,.int .u32 x2,.int .u64 x3,.int .u64 x4] 25):=⟨_,rfl⟩
      rw [← hW6] at hb6 c0 c1 c2 c3 c4 ⊢
      have hz6:=hb6.size
      have HB6:=hide hb6
      clear hb6 hW6 k9 HB5
      go_wp2_with (first
       | (go_at_call 52;refine (Calls.mono (bString w1.heap.size _ w8 HB8.out (by rw [HFin.out];exact repL_lt _ _)) ?_);rintro e w9 ⟨rfl,hb9⟩;rw [HFin.out];have HB9:=hide hb9;clear hb9)
       | (go_at_call 58;refine (Calls.mono (HLn.out _ _ _ (HB6.out.alloc HB6.out.size _) (HBk4.out _) (by omega)) ?_);rintro e w8 ⟨rfl,hb8,hbe8,_⟩;have HB8:=hide hb8;have HBe8:=hide ((HB6.out.alloc HB6.out.size (.cells #[.int .u64 (x0:Nat),.int .u64 (x1:Nat),.int .u64 (x3:Nat),.int .u64 (x4:Nat)] 22)).mono (Nat.le_of_lt hblt) |>.trans hbe8);clear hb8 hbe8))
      go_ret2
      exact ⟨.inr ⟨(by rw [HR.out]),ls,HG7.out,rfl⟩,HBw.out.trans ((HBe8.out.trans HB9.out).mono hws)⟩
 · have d1:(z != 0) = true:=by simpa using hz
   have sg2:Calls Tryz.prog 26 #[.string s] w fun e w' => e = .returned (.tuple #[.slice none 0 0,.int .i64 z]) ∧ Below w.heap.size w w':=sg.mono fun e w' hh => by
    rcases hh with ⟨⟨_,h⟩ | ⟨h,_⟩,hb⟩
    · rw [hR] at h;exact ⟨h,hb⟩
    · rw [hR] at h;exact absurd h hz
   have HSg:=hide sg2
   have HR:=hide hR
   clear sg sg2 hR hS hT hP
   go_enter Tryz.func27,Tryz.ntmps27
   go_wp2_with (go_at_call 26;refine (Calls.mono HSg.out ?_);rintro e w1 ⟨rfl,hb1⟩;have HB1:=hide hb1;clear hb1)
   go_ret2
   exact ⟨.inl ⟨(by rw [HR.out];exact hz),(by rw [HR.out];rfl)⟩,HB1.out⟩
end Go.Proofs.YtcfnjpokfodmoaaGreatDoor
