/- Lemmas for the row: OrdA, OrdB. -/
import Derived.Test.YtcfnjpokfodmoaaGreatDoorM03
import Derived.Test.YtcfnjpokfodmoaaGreatDoorM07
import Derived.Test.YtcfnjpokfodmoaaGreatDoorM26
import Derived.Shelf.SlicesE.Clone
import Derived.Shelf.SlicesE.Compact
set_option maxRecDepth 100000
set_option linter.unusedVariables false
namespace Go.Proofs.YtcfnjpokfodmoaaGreatDoor
open Go.RowKit Go.Sort
def renB:Go.Shelf.Ren:=⟨fun | 43 => 83 | 41 => 81 | n => n,fun | 0 => 0 | 3 => 3 | 4 => 4 | 22 => 38 | 23 => 5 | n => n,fun | n => n⟩
theorem layCompact:SlLaysE.n43 Tryz.prog renB:={
 mixed:=by kernel_rfl
 f43:=⟨Tryz.f83.name,by decide,Tryz.func83.trans (congrArg some (by kernel_rfl))⟩
 t0:=Tryz.underlying0
 a0:=Tryz.isAgg0
 z0:=Tryz.sizeOf0
 v0:=Tryz.zeroValue0
 t3:=Tryz.underlying3
 a3:=Tryz.isAgg3
 z3:=Tryz.sizeOf3
 v3:=Tryz.zeroValue3
 t4:=Tryz.underlying4
 a4:=Tryz.isAgg4
 z4:=Tryz.sizeOf4
 v4:=Tryz.zeroValue4
 t22:=Tryz.underlying38
 a22:=Tryz.isAgg38
 z22:=Tryz.sizeOf38
 v22:=Tryz.zeroValue38
 a23:=Tryz.isAgg5
 z23:=Tryz.sizeOf5 }
theorem layClone:SlLaysE0.n41 Tryz.prog renB:={
 mixed:=by kernel_rfl
 f41:=⟨Tryz.f81.name,by decide,Tryz.func81.trans (congrArg some (by kernel_rfl))⟩
 t4:=Tryz.underlying4
 a4:=Tryz.isAgg4
 z4:=Tryz.sizeOf4
 v4:=Tryz.zeroValue4
 t22:=Tryz.underlying38
 a22:=Tryz.isAgg38
 z22:=Tryz.sizeOf38
 v22:=Tryz.zeroValue38 }
def Hb (w:World) (g o:Nat) (l:List Nat):Prop:=∀ i x,l[i]? = some x → w.cell? ⟨g,o + i,none⟩ = some (.int .u8 (x:Nat)) ∧ w.frozen? ⟨g,o + i,none⟩ = false
theorem cloneB_any (b o n c:Nat) (l:List Nat) (w:World) (hl:l.length = n) (hn:n ≤ 1000000000) (h1:1 ≤ n) (h:∀ i x,l[i]? = some x → w.cell? ⟨b,o + i,none⟩ = some (.int .u8 (x:Nat))) :
 Calls Tryz.prog 81 #[.slice (some ⟨b,o,none⟩) n c] w fun e w' => ∃ g c',e = .returned (.slice (some ⟨g,0,none⟩) n c') ∧ n ≤ c' ∧ w.heap.size ≤ g ∧ g < w'.heap.size ∧ Hb w' g 0 l ∧ Below w.heap.size w w':=by
 obtain ⟨i0,hi,hz0,hz1,hz2⟩:=info_parts info_u8
 have:=AnyE.slices_Clone layClone i0 (.int .u8 0) 1 1 hi hz0 hz1 hz2 rfl (by decide) Tryz.sizeOf5 b o n c (vby l) w (by rw [vby_length,hl,Nat.mul_one]) (by unfold maxLen;omega) (by omega) (fun j u hu => by
  unfold vby at hu
  rw [List.getElem?_map] at hu
  cases hq:l[j]? with
  | none => rw [hq] at hu;cases hu
  | some x => rw [hq] at hu;cases hu;exact h j x hq) (by intro u hu;obtain ⟨q,_,rfl⟩:=List.mem_map.1 hu;rfl)
 refine Calls.mono (this) ?_
 rintro e w' ⟨v',rfl,ho,hne,hb⟩
 rcases ho.2 with ⟨rfl,h0⟩ | ⟨g,cap,cur,rfl,hbg,hg,hcap⟩
 · omega
 · refine ⟨g,cap,rfl,hcap.1,hbg,(Array.getElem?_eq_some_iff.1 hg).1,fun i x hx => ⟨?_, ?_⟩,hb⟩
   · have:=ho.cells (g:=g) rfl i (.int .u8 (x:Nat)) (by unfold vby;rw [List.getElem?_map,hx];rfl)
     rwa [Addr.add_lit] at this
   · simp [World.frozen?,hg]
theorem compact_sorted {l:List Nat} (hs:l.Pairwise fun a b => a ≤ b):∃ d:List Nat,(Lib.compactUpTo (l.map fun (x:Nat) => (x:Int)).toArray l.length) = d.map (fun (x:Nat) => (x:Int)) ∧ d.Pairwise (fun a b => a < b) ∧ (∀ x,x ∈ l → x ∈ d) ∧ d.length ≤ l.length:=by
 obtain ⟨D,hD⟩:∃ D:Array Int,D = (l.map fun (x:Nat) => (x:Int)).toArray:=⟨_,rfl⟩
 have hget:∀ i,i < l.length → D[i]! = ((l.getD i 0:Nat):Int):=by
  intro i hi
  rw [hD,getElem!_pos _ i (by simpa using hi),List.getD_eq_getElem?_getD,List.getElem?_eq_getElem hi]
  simp
 rw [← hD]
 have hmono:∀ i j,i ≤ j → j < l.length → l.getD i 0 ≤ l.getD j 0:=by
  intro i j hij hj
  rcases Nat.eq_or_lt_of_le hij with rfl | h
  · exact Nat.le_refl _
  · have:=(List.pairwise_iff_getElem.1 hs) i j (by omega) hj h
    rw [List.getD_eq_getElem?_getD,List.getD_eq_getElem?_getD,List.getElem?_eq_getElem (by omega),List.getElem?_eq_getElem hj]
    exact this
 refine ⟨((List.range l.length).filter (Lib.keeps D)).map fun i => l.getD i 0, ?_, ?_, ?_, ?_⟩
 · unfold Lib.compactUpTo
   rw [List.map_map]
   apply List.map_congr_left
   intro i hi
   have:=List.mem_range.1 (List.mem_filter.1 hi).1
   exact hget i this
 · rw [List.pairwise_map]
   have hp:((List.range l.length).filter (Lib.keeps D)).Pairwise (fun a b => a < b):=(List.pairwise_lt_range).filter _
   refine List.Pairwise.imp_of_mem ?_ hp
   intro a b ha hb hab
   have hb2:=List.mem_filter.1 hb
   have hbl:=List.mem_range.1 hb2.1
   have hk:=hb2.2
   unfold Lib.keeps at hk
   rw [decide_eq_true_eq] at hk
   rcases hk with hk | hk
   · omega
   · rw [hget b hbl,hget (b - 1) (by omega)] at hk
     have h1:=hmono a (b - 1) (by omega) (by omega)
     have h2:=hmono (b - 1) b (by omega) hbl
     have h3:l.getD b 0 ≠ l.getD (b - 1) 0:=fun e => hk (by rw [e])
     omega
 · intro x hx
   have key:∀ i,i < l.length → l.getD i 0 ∈ ((List.range l.length).filter (Lib.keeps D)).map fun i => l.getD i 0:=by
    intro i
    induction i with
    | zero =>
      intro h0
      exact List.mem_map.2 ⟨0,List.mem_filter.2 ⟨List.mem_range.2 h0,by simp [Lib.keeps]⟩,rfl⟩
    | succ i ih =>
      intro hi
      by_cases e:l.getD (i + 1) 0 = l.getD i 0
      · rw [e];exact ih (by omega)
      · refine List.mem_map.2 ⟨i + 1,List.mem_filter.2 ⟨List.mem_range.2 hi, ?_⟩,rfl⟩
        unfold Lib.keeps
        rw [decide_eq_true_eq]
        right
        rw [hget (i + 1) hi,Nat.add_sub_cancel,hget i (by omega)]
        omega
   obtain ⟨i,hi,rfl⟩:=List.getElem_of_mem hx
   have:=key i hi
   rwa [List.getD_eq_getElem?_getD,List.getElem?_eq_getElem hi] at this
 · rw [List.length_map]
   have:=List.length_filter_le (Lib.keeps D) (List.range l.length)
   rwa [List.length_range] at this
theorem compactB_any (g o c:Nat) (l:List Nat) (w:World) (h:Hb w g o l) (hs:l.Pairwise fun a b => a ≤ b) (hg:g < w.heap.size) (hl:l.length ≤ 1000000000) (hc:l.length ≤ c) :
 Calls Tryz.prog 83 #[.slice (some ⟨g,o,none⟩) l.length c] w fun e w' => ∃ d:List Nat,e = .returned (.slice (some ⟨g,o,none⟩) d.length c) ∧ d.Pairwise (fun a b => a < b) ∧ (∀ x,x ∈ l → x ∈ d) ∧ d.length ≤ l.length ∧ Hb w' g o d ∧ Fr (fun x => x = g) w w':=by
 obtain ⟨D,hD⟩:∃ D:Array Int,D = (l.map fun (x:Nat) => (x:Int)).toArray:=⟨_,rfl⟩
 have hsz:D.size = l.length:=by rw [hD];simp
 have hH:Holds (Value.int .u8) w g o D:=by
  intro j hj
  have hjl:j < l.length:=by omega
  have hx:l[j]? = some l[j]:=List.getElem?_eq_getElem hjl
  have hget:D[j]! = (l[j]:Int):=by
   clear hsz hj
   subst hD
   rw [getElem!_pos _ j (by simpa using hjl)];simp
  rw [hget]
  exact h j _ hx
 obtain ⟨d,h1,h2,h3,h4⟩:=compact_sorted hs
 rw [← hD] at h1
 have:=AnyE.slices_Compact layCompact (Value.int .u8) (fun _ => rfl) (EqlAt.intD _ _ _) (NeqAt.intD _ _ _) 0 Tryz.zeroValue5 g o c D w hH (by omega) (by omega)
 rw [hsz,h1,List.length_map] at this
 refine Calls.mono this ?_
 rintro e w' ⟨rfl,q,rfl⟩
 refine ⟨d,rfl,h2,h3,h4, ?_, ?_⟩
 · obtain ⟨E,hE⟩:∃ E:Array Int,E = (d.map (fun (x:Nat) => (x:Int)) ++ List.replicate (l.length - d.length) 0).toArray:=⟨_,rfl⟩
   have hEs:E.size = D.size:=by rw [hE,hsz];simp;omega
   rw [← hE]
   have hh:=holds_putRow (Value.int .u8) (Sort.ahead w q) g o D E (holds_ahead _ _ q _ _ _ hH) hEs
   intro i x hx
   have hi:=(List.getElem?_eq_some_iff.1 hx).1
   have:=hh i (by omega)
   have hget:E[i]! = (x:Int):=by
    rw [getElem!_pos _ i (by omega)]
    have e2:E.toList[i]? = some (x:Int):=by
     rw [hE,List.toList_toArray,List.getElem?_append_left (by simpa using hi),List.getElem?_map,hx];rfl
    rw [Array.getElem?_toList] at e2
    exact (Array.getElem?_eq_some_iff.1 e2).2
   rw [hget] at this
   exact this
 · have:=fr_sort w q g o (d.map (fun (x:Nat) => (x:Int)) ++ List.replicate (l.length - d.length) 0).toArray #[]
   rwa [grow_empty] at this
open Go.RowKit
theorem Fr.below_of {S:Nat → Prop} {a w:World} {B:Nat} (h:Fr S a w) (hS:∀ k,k < B → k < a.heap.size ∧ ¬ S k):Below B a w:=⟨h.os,h.tape,h.output,h.size,fun k hk => h.block k (hS k hk).1 (hS k hk).2⟩
theorem pair_get {l:List Nat} (h:l.Pairwise fun a b => a < b) {i j:Nat} (hij:i < j) (hj:j < l.length):l.getD i 0 < l.getD j 0:=by
 rw [List.getD_eq_getElem?_getD,List.getD_eq_getElem?_getD,List.getElem?_eq_getElem hj,List.getElem?_eq_getElem (by omega:i < l.length)]
 exact List.pairwise_iff_getElem.1 h i j (by omega) hj hij
set_option maxHeartbeats 1000000 in
theorem bsearch_any (b c:Nat) (D:List Nat) (x:Nat) (w:World) (h:Hb w b 0 D) (hs:D.Pairwise fun a b => a < b) (hx:x ∈ D) (hl:D.length ≤ 1000000000) :
 Calls Tryz.prog 84 #[.slice (some ⟨b,0,none⟩) D.length c,.int .u8 x] w fun e w' => (∃ (i:Nat) (q:Bool),e = .returned (.tuple #[.int .i64 i,.bool q]) ∧ i < D.length ∧ D.getD i 0 = x) ∧ ∃ n,w' = w.drewN n:=by
 obtain ⟨p,hp,hpx⟩:∃ p,p < D.length ∧ D.getD p 0 = x:=by
  obtain ⟨p,hp,e⟩:=List.getElem_of_mem hx
  exact ⟨p,hp,by rw [List.getD_eq_getElem?_getD,List.getElem?_eq_getElem hp];exact e⟩
 have HS:=hide (fun i j (hij:i < j) (hj:j < D.length) => pair_get hs hij hj)
 have HC:=hide (fun i (hi:i < D.length) => (show w.cell? ⟨b,i,none⟩ = some (.int .u8 (D.getD i 0:Nat)) by
  have:=(h i (D.getD i 0) (by rw [List.getD_eq_getElem?_getD,List.getElem?_eq_getElem hi];rfl)).1
  rwa [Nat.zero_add] at this))
 have HPX:=hide hpx
 clear h hs hx hpx
 go_enter Tryz.func84,Tryz.ntmps84
 go_wp2_with fail
 go_loopw [7,8] (fun vi vj wr => ∃ i j:Nat,vi = .int .i64 i ∧ vj = .int .i64 j ∧ i ≤ j ∧ j ≤ D.length ∧ i ≤ p ∧ Hid (j < D.length → x ≤ D.getD j 0) ∧ ∃ n,wr = w.drewN n) (fun vi vj _ => (intOf vj).toNat - (intOf vi).toNat)
 case atStart => exact ⟨0,D.length,rfl,rfl,by omega,by omega,by omega,hide (fun h => absurd h (Nat.lt_irrefl _)),0,rfl⟩
 case round =>
  obtain ⟨i,j,rfl,rfl,hij,hj,hip,hxj,n,rfl⟩:=hrel
  by_cases hlt:i < j
  · have hm1:i ≤ (i + j) / 2:=by omega
    have hm2:(i + j) / 2 < j:=by omega
    have hc:w.cell? ⟨b,(i + j) / 2,none⟩ = some (.int .u8 (D.getD ((i + j) / 2) 0:Nat)):=HC.out _ (by omega)
    obtain ⟨y,hy⟩:∃ y,y = D.getD ((i + j) / 2) 0:=⟨_,rfl⟩
    rw [← hy] at hc
    have HY:=hide hy
    clear hy
    go_wp2_with (first | (go_at_call 126;refine (bn_cmp_Less _ _ _).mono ?_;rintro e w' ⟨rfl,rfl⟩))
    · have hl2:Sort.ltInt (y:Int) x = true:=by assumption
      have hyx:y < x:=by simpa [Sort.ltInt] using hl2
      have hmp:(i + j) / 2 < p:=by
       have h1:=HY.out
       have h2:=HPX.out
       rcases Nat.lt_or_ge ((i + j) / 2) p with g | g
       · exact g
       · rcases Nat.lt_or_ge p ((i + j) / 2) with g2 | g2
         · have:=HS.out p ((i + j) / 2) g2 (by omega);omega
         · obtain e:(i + j) / 2 = p:=by omega
           rw [e] at h1;omega
      go_roundw
      case rel => exact ⟨(i + j) / 2 + 1,j,by go_num,rfl,by omega,hj,by omega,hxj,n,rfl⟩
      case measure => simp [intOf];omega
    · have hl2:Sort.ltInt (y:Int) x = false:=by assumption
      have hyx:x ≤ y:=by simpa [Sort.ltInt] using hl2
      go_roundw
      case rel => exact ⟨i,(i + j) / 2,rfl,by go_num,by omega,by omega,hip,hide (fun _ => by rw [← HY.out];exact hyx),n,rfl⟩
      case measure => simp [intOf];omega
  · obtain rfl:i = j:=by omega
    have hip2:i < D.length:=by omega
    have hc:w.cell? ⟨b,i,none⟩ = some (.int .u8 (D.getD i 0:Nat)):=HC.out _ (by omega)
    have HR:=hide (show i < D.length ∧ D.getD i 0 = x from by
     refine ⟨hip2, ?_⟩
     have h1:=hxj.out hip2
     have h2:=HPX.out
     rcases Nat.lt_or_ge i p with g | g
     · have:=HS.out i p g hp;omega
     · obtain rfl:i = p:=by omega
       exact h2)
    rw [HR.out.2] at hc
    go_wp2_with fail
    refine bodyPost_ret (v:=.tuple #[.int .i64 i,.bool true]) (by simp [results,Tryz.results84,go_sem]) rfl ?_
    exact ⟨⟨i,_,rfl,HR.out⟩,n,rfl⟩
set_option maxHeartbeats 1000000 in
theorem ranks_any (b o n c:Nat) (s:List Nat) (w:World) (hs:s.length = n) (hn:n ≤ 1000000) (h1:1 ≤ n) (h:∀ i x,s[i]? = some x → w.cell? ⟨b,o + i,none⟩ = some (.int .u8 (x:Nat))) (hb:b < w.heap.size) :
 Calls Tryz.prog 47 #[.slice (some ⟨b,o,none⟩) n c] w fun e w' => ∃ (g:Nat) (rk:List Nat),e = .returned (.slice (some ⟨g,0,none⟩) n n) ∧ w.heap.size ≤ g ∧ Bk w' g 3 (rk.map fun x:Nat => Value.int .i64 x).toArray ∧ RankOK s 1 rk ∧ Below w.heap.size w w':=by
 have H:=hide h
 clear h
 have hmk:∀ W:World,(Instr.makeSlice 74 (.int .i64 n) (.int .i64 n)).run Tryz.prog W = .ok (.slice (some ⟨W.heap.size,0,none⟩) n n) (W.alloc (.cells (madeCells #[.int .i64 0] n) 3)):=fun W => run_make_row' (P:=Tryz.prog) 74 3 (.int .i64 0) 8 Tryz.underlying74 info_int rfl .i64 .i64 n (by omega) (by omega) W
 have hz0:madeCells #[.int .i64 0] n = ((List.replicate n 0).map fun x:Nat => Value.int .i64 x).toArray:=by
  apply Array.ext
  · simp [size_madeCells]
  · intro i h1 h2;simp [madeCells,Nat.mod_one]
 have HZ0:=hide hz0
 clear hz0
 go_enter Tryz.func47,Tryz.ntmps47
 go_wp2_with (first | (go_at_call 81;refine (cloneB_any b o n c s w hs (by omega) h1 H.out).mono ?_;rintro e w1 ⟨g,c1,rfl,hc1,hg0,hg1,hB1,hbe1⟩) | (go_at_call 82;have HX:=sortB_any g 0 c1 s w1 hB1 hg1 (by omega);rw [hs] at HX;refine HX.mono ?_;clear HX;rintro e w2 ⟨rfl,⟨s2,hp2,hs2,hB2⟩,hf2⟩) | (go_at_call 83;have hl2:=hp2.length_eq.trans hs;have HX:=compactB_any g 0 c1 s2 w2 hB2 hs2 (by have:=hf2.size;omega) (by omega) (by omega);rw [hl2] at HX;refine HX.mono ?_;clear HX;rintro e w3 ⟨d,rfl,hd1,hd2,hd3,hB3,hf3⟩))
 have hs3:=hf2.size
 have hs4:=hf3.size
 have hbe3:Below w.heap.size w w3:=(hbe1.trans (hf2.below_of (fun y hy => by omega))).trans (hf3.below_of (fun y hy => by omega))
 have HS:=hide (fun a (ha:a < n) => (show s.getD a 0 ∈ d by
  refine hd2 _ ((hp2.mem_iff).2 ?_)
  rw [List.getD_eq_getElem?_getD,List.getElem?_eq_getElem (by omega:a < s.length)]
  exact List.getElem_mem _))
 have HD1:=hide hd1
 have HB3:=hide hB3
 have HP:=hide hp2
 have hg3:g < w3.heap.size:=by omega
 clear hB1 hbe1 hf2 hp2 hs2 hB2 hf3 hd1 hd2 hB3 hl2
 go_loopw [18] (fun i wr => ∃ (k:Nat) (rk:List Nat),k ≤ n ∧ i = .int .i64 k ∧ rk.length = n ∧ Hid (Bk wr w3.heap.size 3 (rk.map fun x:Nat => Value.int .i64 x).toArray) ∧ Hid (∀ a,a < k → rk.getD a 0 < d.length ∧ d.getD (rk.getD a 0) 0 = s.getD a 0) ∧ Hid (Below w3.heap.size w3 wr)) (fun i _ => n - (intOf i).toNat)
 case atStart => exact ⟨0,List.replicate n 0,by omega,rfl,by simp,hide (by rw [← HZ0.out];exact Bk.new w3 _ _),hide (fun a ha => absurd ha (Nat.not_lt_zero a)),hide ((Below.refl _ _).alloc (Nat.le_refl _) _)⟩
 case round =>
  clear HZ0 hmk
  obtain ⟨k,rk,hk,rfl,hrl,HK,HA,HE⟩:=hrel
  by_cases hlt:k < n
  · obtain ⟨x,hx⟩:∃ x,s[k]? = some x:=⟨s[k],List.getElem?_eq_getElem (by omega)⟩
    have hc0:=H.out k x hx
    have hc:wr.cell? ⟨b,o + k,none⟩ = some (.int .u8 (x:Nat)):=HE.out.cell (p:=⟨b,o + k,none⟩) (by show b < _;omega) |>.trans (hbe3.cell (p:=⟨b,o + k,none⟩) hb |>.trans hc0)
    have hxd:x ∈ d:=by
     have:=HS.out k hlt
     rwa [List.getD_eq_getElem?_getD,hx] at this
    have HXk:=hide hx
    have hBr:Hid (Hb wr g 0 d):=hide (fun i y hy => by
     have:=HB3.out i y hy
     exact ⟨(HE.out.cell (p:=⟨g,0 + i,none⟩) hg3).trans this.1,by
      have h2:=this.2
      unfold World.frozen? at h2 ⊢
      rw [HE.out.block g hg3];exact h2⟩)
    have hcw:wr.cell? ⟨w3.heap.size,k,none⟩ = some (.int .i64 (rk.getD k 0:Nat)):=by
     rw [HK.out.cell k,List.getElem?_toArray,List.getElem?_map,List.getElem?_eq_getElem (by omega:k < rk.length),List.getD_eq_getElem?_getD,List.getElem?_eq_getElem (by omega:k < rk.length)];rfl
    have hfw:=HK.out.free k
    clear hc0 hx
    go_wp2_with (first | (go_at_call 84;refine (bsearch_any g c1 d x wr hBr.out HD1.out hxd (by omega)).mono ?_;rintro e w4 ⟨⟨i,q,rfl,hi1,hi2⟩,nq,rfl⟩;have HI2:=hide hi2;clear hi2))
    have HXk2:s.getD k 0 = x:=by rw [List.getD_eq_getElem?_getD,HXk.out];rfl
    go_roundw
    case rel =>
     refine ⟨k + 1,rk.set k i,by omega,by go_num,by rw [List.length_set];exact hrl,hide ?_,hide (fun a ha => ?_),hide ((below_drewN HE.out nq).setCell (Nat.le_refl _) _)⟩
     · have:=(HK.out.drewN nq).set_ k (.int .i64 (i:Nat))
       rwa [List.setIfInBounds_toArray,← List.map_set] at this
     · by_cases e:k = a
       · subst e
         rw [List.getD_eq_getElem?_getD,List.getElem?_set_self (by omega)]
         exact ⟨hi1,by rw [HXk2];exact HI2.out⟩
       · rw [show (rk.set k i).getD a 0 = rk.getD a 0 by rw [List.getD_eq_getElem?_getD,List.getD_eq_getElem?_getD,List.getElem?_set_ne e]]
         exact HA.out a (by omega)
    case measure => simp [intOf];omega
  · obtain rfl:k = n:=by omega
    go_wp2_with fail
    go_ret
    refine ⟨w3.heap.size,rk,rfl,by omega,HK.out, ?_, ?_⟩
    · exact rank_one HD1.out (by omega) (by omega) (fun a ha => HA.out a (by omega))
    · exact hbe3.trans (HE.out.mono (by have:=hbe3.size;omega))
end Go.Proofs.YtcfnjpokfodmoaaGreatDoor
