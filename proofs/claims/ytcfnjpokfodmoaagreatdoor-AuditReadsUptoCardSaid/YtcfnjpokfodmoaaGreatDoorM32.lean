/- Lemmas for the row: AppZ, Close, AddA, AddB, Gall, SegRead, SegRd, AudLook, BuilderF. -/
import Derived.Test.YtcfnjpokfodmoaaGreatDoorM01
import Derived.Test.YtcfnjpokfodmoaaGreatDoorM04
import Derived.Test.YtcfnjpokfodmoaaGreatDoorM08
import Derived.Test.YtcfnjpokfodmoaaGreatDoorM10
import Derived.Test.YtcfnjpokfodmoaaGreatDoorM12
import Derived.Test.YtcfnjpokfodmoaaGreatDoorM13
import Derived.Test.YtcfnjpokfodmoaaGreatDoorM14
import Derived.Test.YtcfnjpokfodmoaaGreatDoorM31
import Derived.Test.YtcfnjpokfodmoaaGreatDoorShelf
import Derived.Deep.RegionLawGrows
import Derived.Lib.AppendZeros
import Derived.StillTailTactics
set_option maxRecDepth 100000
set_option linter.unusedVariables false
namespace Go.Proofs.YtcfnjpokfodmoaaGreatDoor
open Go.RowKit Go.Sort
theorem zeroCells_one (z:Value) (n:Nat):Builtin.zeroCells #[z] n = (List.replicate n z).toArray:=by
 apply Array.ext
 · simp [Builtin.zeroCells]
 · intro i h1 h2;simp [Builtin.zeroCells,Nat.mod_one]
theorem run_append_zeros_own {P:Program} (w:World) (base:Nat) (t tn ty e:TypeId) (i:TypeInfo) (z:Value) (k kn:IntKind) (ht:P.underlying t = some (.slice e)) (htn:P.underlying tn = some (.int kn)) (hi:P.info? e = some i) (hz:i.zero = some z)
 (hsize:i.size = 1) (hby:i.bytes = 1) (hzs:z.cells = #[z]) (h1:z.oneCell' = true) (v:Value) (n:Nat) (xs:List Value) (hown:w.ownsRow base e 1 v n xs) (m:Nat)
 (h63:n + m ≤ 1000000) (hbase:base ≤ w.heap.size) :
 ∃ v' w',(Builtin.append_ #[t,tn] ty #[v,.int k m]).run P w = .ok v' w' ∧ w'.ownsRow base e 1 v' (n + m) (xs ++ List.replicate m z) ∧ w.grownBy w' v.ownBlock ∧ (v'.ownBlock = v.ownBlock ∨ v'.ownBlock = some w.heap.size):=by
 have hw:IntKind.i64.wrap (m:Int) = m:=by rw [IntKind.wrap_i64];omega
 have hneg:¬ ((m:Int) < 0):=by omega
 have h48i:¬ (281474976710656 < (m:Int) * (i.bytes:Int)):=by rw [hby];omega
 have hlen:(xs ++ List.replicate m z).length = (n + m) * 1:=by rw [List.length_append,hown.1,List.length_replicate];omega
 have grown:∀ (old:Nat),old < n + m → ∀ (row:Option Nat),
  (w.drew.alloc (.cells (xs.toArray ++ (List.replicate m z).toArray ++ Builtin.zeroCells z.cells (grownCap w (n + m) old e - (n + m))) e)).ownsRow base e 1
    (.slice (some ⟨w.heap.size,0,none⟩) (n + m) (grownCap w (n + m) old e)) (n + m) (xs ++ List.replicate m z) ∧
  w.grownBy (w.drew.alloc (.cells (xs.toArray ++ (List.replicate m z).toArray ++ Builtin.zeroCells z.cells (grownCap w (n + m) old e - (n + m))) e)) row:=by
  intro old ho row
  have hge:=grownCap_ge w (n + m) old e
  have hcm:grownCap w (n + m) old e ≤ maxLen:=grownCap_le_maxLen w (n + m) old e (by unfold maxLen;omega)
  have hx1:=hown.1
  refine ⟨⟨hlen,.inr ⟨w.heap.size,_,_,rfl,hbase,heap_alloc_new w.drew _,hge,hcm, ?_, ?_⟩⟩,⟨rfl,rfl,rfl,by simp,fun j hj _ => RowKit.Below.heap_alloc w.drew _ j hj⟩⟩
  · simp only [Array.size_append,List.size_toArray,size_zeroCells,hzs,hx1,List.length_replicate]
    simp
    omega
  · simp only [Array.toList_append,List.append_assoc]
    rw [← List.append_assoc,← hlen]
    exact List.take_left
 rcases hown.2 with ⟨rfl,rfl⟩ | ⟨g,cap,cur,rfl,hbg,hg,hnc,hcm,hcs,htake⟩
 · have hx:xs = []:=List.eq_nil_of_length_eq_zero (by simpa using hown.1)
   subst hx
   by_cases hm:m = 0
   · subst hm
     refine ⟨.slice none 0 0,w, ?_,World.ownsRow_nil w base e 1,⟨rfl,rfl,rfl,Nat.le_refl _,fun _ _ _ => rfl⟩,Or.inl rfl⟩
     simp [Builtin.append_,run_underlying ht,run_underlying htn,sizeOf,typeInfo,hi,asInt,asIntOf,IntKind.wrap_i64]
   · have hr:=Lib.run_append_nil_zeros (P:=P) w t tn ty e i z k kn ht htn hi hz m (by omega) (by omega) (by omega) (by rw [hby];omega)
     have hgr:=grown 0 (by omega) (Value.ownBlock (.slice none 0 0))
     have hzc:Builtin.zeroCells z.cells m = (List.replicate m z).toArray:=by rw [hzs,zeroCells_one]
     rw [hzc] at hr
     simp only [Nat.zero_add,List.nil_append,Array.empty_append] at hgr ⊢
     exact ⟨_,_,hr,hgr.1,hgr.2,Or.inr rfl⟩
 · have hzc:Builtin.zeroCells z.cells m = (List.replicate m z).toArray:=by rw [hzs,zeroCells_one]
   by_cases hroom:n + m ≤ cap
   · have hfit:n + (List.replicate m z).length ≤ cur.size:=by rw [List.length_replicate,hcs];omega
     have hst:=run_storeCells_at P g (n * 1) e (List.replicate m z) 0 cur w hg (by simpa using hfit) (fun u hu => by rw [List.eq_of_mem_replicate hu];exact h1)
     simp only [Nat.add_zero,Nat.mul_one] at hst
     have hr:(Builtin.append_ #[t,tn] ty #[.slice (some ⟨g,0,none⟩) n cap,.int k m]).run P w = .ok (.slice (some ⟨g,0,none⟩) (n + m) cap) (w.setRow g (cur.toList.take n ++ List.replicate m z ++ cur.toList.drop (n + (List.replicate m z).length)).toArray):=by
      by_cases hm:m = 0
      · subst hm
        simp [Builtin.append_,run_underlying ht,run_underlying htn,sizeOf,typeInfo,hi,asInt,asIntOf,IntKind.wrap_i64,hsize,hnc,Addr.add_lit]
        have h2:Sem.run P (storeCells { block:=g,off:=n } []) w = Result.ok () (w.setRow g cur):=by simpa using hst
        rw [h2]
        rfl
      · have hm':¬ m * 1 = 0:=by omega
        simp [Builtin.append_,run_underlying ht,run_underlying htn,sizeOf,typeInfo,zeroValue,hi,hz,asInt,asIntOf,hw,hneg,hsize,hm,h48i,hroom,hzc,Addr.add_lit]
        have h2:Sem.run P (storeCells { block:=g,off:=n } (List.replicate m z)) w = Result.ok () (w.setRow g (List.take n cur.toList ++ (List.replicate m z ++ List.drop (n + m) cur.toList)).toArray):=by simpa using hst
        rw [h2]
        rfl
     refine ⟨_,_,hr,⟨hlen,.inr ⟨g,cap,_,rfl,hbg,setRow_heap w g cur _ e _ hg,hroom,hcm, ?_, ?_⟩⟩,⟨rfl,rfl,rfl,by simp,fun k _ hk => setRow_other w g k _ (fun e => hk (by simp [Value.ownBlock,e]))⟩,Or.inl rfl⟩
     · simp only [List.size_toArray,List.length_append,List.length_take,List.length_drop,Array.length_toList,List.length_replicate]
       omega
     · have ht2:cur.toList.take n = xs:=by simpa using htake
       rw [ht2,← hlen]
       exact List.take_left
   · have holds:∀ j u,xs[j]? = some u → w.cell? ((⟨g,0,none⟩:Addr).add j) = some u:=hown.cells (g:=g) rfl
     have hr:(Builtin.append_ #[t,tn] ty #[.slice (some ⟨g,0,none⟩) n cap,.int k m]).run P w = .ok (.slice (some ⟨w.heap.size,0,none⟩) (n + m) (grownCap w (n + m) cap e))
      (w.drew.alloc (.cells (xs.toArray ++ (List.replicate m z).toArray ++ Builtin.zeroCells z.cells (grownCap w (n + m) cap e - (n + m))) e)):=by
      have hn:¬ (n + m ≤ cap):=hroom
      have h63':¬ (9223372036854775807 < ((n:Int) + (m:Int))):=by omega
      have h48':¬ (281474976710656 < Builtin.nextslicecap (n + m) cap * i.bytes):=by have:=growslice_fits (old:=cap) (bytes:=i.bytes) (show cap < n + m by omega) (by rw [hby];omega);omega
      have hfo:=run_firstCells_some (P:=P) w.drew i.size n ⟨g,0,none⟩ n cap xs (by rw [hown.1,hsize]) (by simpa using holds)
      have hm:¬ m = 0:=by omega
      rw [hsize] at hfo
      simp [Builtin.append_,run_underlying ht,run_underlying htn,sizeOf,typeInfo,zeroValue,hi,hz,asInt,asIntOf,hw,hneg,hsize,hm,h48i,hn,h63',h48',Question.forced,hfo,hzc,newRow,grownCap]
     have hgr:=grown cap (by omega) (Value.ownBlock (.slice (some ⟨g,0,none⟩) n cap))
     exact ⟨_,_,hr,hgr.1,hgr.2,Or.inr rfl⟩
theorem step_append_zeros {P:Program} {ops:Array Oper} {o:Oper} {a:Act} {w:World} {K:Act → World → Prop} {Q:Exit → Act → World → Prop} {E:Prop}
 (hg:o.guard = none) (s x:Operand) (t tn:TypeId) (hop:o.op = Op.call { callee:=Callee.builtin Builtin.append,args:=#[s,x],argTypes:=#[t,tn] })
 (base:Nat) (e:TypeId) (i:TypeInfo) (z:Value) (k kn:IntKind) (ht:P.underlying t = some (.slice e)) (htn:P.underlying tn = some (.int kn)) (hi:P.info? e = some i) (hz:i.zero = some z)
 (hsize:i.size = 1) (hby:i.bytes = 1) (hzs:z.cells = #[z]) (h1:z.oneCell' = true) (v:Value) (n:Nat) (xs:List Value) (hs:a.eval s = v) (hown:w.ownsRow base e 1 v n xs) (m:Nat) (hx:a.eval x = .int k m)
 (h63:n + m ≤ 1000000) (hbase:base ≤ w.heap.size)
 (hK:∀ v' w',w'.ownsRow base e 1 v' (n + m) (xs ++ List.replicate m z) → w.grownBy w' v.ownBlock → (v'.ownBlock = v.ownBlock ∨ v'.ownBlock = some w.heap.size) → K (a.put o.dst v') w') :
 if Region.wanted o (yielded ops a.tmps) = true then Oper.wp P o a w K Q else E:=by
 have hw:Region.wanted o (yielded ops a.tmps) = true:=by simp [Region.wanted,hg]
 rw [if_pos hw]
 obtain ⟨v',w',hrun,r1,r2,r3⟩:=run_append_zeros_own (P:=P) w base t tn o.type e i z k kn ht htn hi hz hsize hby hzs h1 v n xs hown m h63 hbase
 unfold Oper.wp
 simp [execOp,hop,resolve,invoke,builtin,hs,hx,hrun,Result.andThen]
 exact hK v' w' r1 r2 r3
def RdrS (w:World) (base g:Nat) (buf:List Nat) (n W:Nat) (d:Value):Prop:=∃ v,Bk w g 138 #[v,.int .u64 n,.int .u64 W,d] ∧ w.ownsRow base 5 1 v buf.length (vby buf)
set_option maxHeartbeats 2000000 in
theorem close_any (g base n W:Nat) (buf:List Nat) (d:Value) (w:World) (h:RdrS w base g buf n W d) (hn:n ≤ 65537) (hb:buf.length ≤ 600) (hbase:base ≤ w.heap.size) :
 Calls Tryz.prog 183 #[.pointer (some ⟨g,0,none⟩)] w fun e w' =>
  (65536 - buf.length < n → e = .returned (.int .i64 8) ∧ RdrS w' base g buf n W d) ∧ (n ≤ 65536 - buf.length → e = .returned (.int .i64 0) ∧ RdrS w' base g (buf ++ List.replicate n 0) 0 0 d) ∧ Fr (fun k => k = g ∨ base ≤ k) w w':=by
 obtain ⟨v,hk,hown⟩:=h
 obtain ⟨A,c,rfl⟩:=own_form3 hown
 obtain ⟨i0,hi,hz0,hz1,hz2⟩:=info_parts info_u8
 obtain ⟨c0,c1,c2,c3⟩:=four_cells hk
 have f0:=hk.free 0
 have f1:=hk.free 1
 have f2:=hk.free 2
 have HK:=hide hk
 have HO:=hide hown
 clear hk hown
 by_cases hbig:65536 - buf.length < n
 · go_enter Tryz.func183,Tryz.ntmps183
   go_wp2_with fail
   go_region
   go_wp2_with fail
   go_ret
   exact ⟨fun _ => ⟨rfl,_,HK.out.drew,HO.out⟩,fun h => absurd h (by omega),(Fr.refl _ w).drew⟩
 · have hne:some g ≠ Value.ownBlock (.slice A buf.length c):=own_ne HO.out HK.out (by decide)
   have HNE:=hide hne
   clear hne
   go_enter Tryz.func183,Tryz.ntmps183
   go_wp2_with fail
   go_region
   go_wp2_with fail
   go_region_law (first
    | (refine step_append_zeros rfl (.tmp 20) (.tmp 25) 38 22 rfl base 5 i0 (.int .u8 0) .u64 .u64 Tryz.underlying38 Tryz.underlying22 hi hz0 hz1 hz2 rfl rfl (.slice A buf.length c) buf.length (vby buf) ?_ ?_ n ?_ ?_ ?_ ?_
       · rfl
       · exact HO.out
       · rfl
       · omega
       · exact hbase
       intro v' w2 hown2 hgr2 hat2
       have hk2:=HK.out.drew.drew.grown hgr2 HNE.out
       obtain ⟨A2,k2,rfl⟩:=own_form3 hown2
       have f02:=hk2.free 0
       have c02:=(four_cells hk2).1
       have HO2:=hide hown2
       have HK2:=hide hk2
       have HG2:=hide hgr2
       clear hown2 hgr2 hk2 hat2))
   all_goals
    have hk3:=HK2.out.set_ 0 (.slice A2 (buf.length + n) k2)
    have ho3:=own_set HO2.out (p:=⟨g,0,none⟩) (fun e => own_ne HO2.out HK2.out (by decide) e.symm) (.slice A2 (buf.length + n) k2)
    obtain ⟨W3,hW3⟩:∃ W3,W3 = w2.setCell ⟨g,0,none⟩ (.slice A2 (buf.length + n) k2):=⟨_,rfl⟩
    rw [← hW3] at hk3 ho3 ⊢
    obtain ⟨c03,c13,c23,c33⟩:=four_cells hk3
    have f13:=hk3.free 1
    have f23:=hk3.free 2
    have HK3:=hide hk3
    have HO3:=hide ho3
    have HW3:=hide hW3
    clear hk3 ho3 hW3
    go_wp2_with fail
    go_ret
    have e1:(buf ++ List.replicate n 0).length = buf.length + n:=by simp
    have e2:vby (buf ++ List.replicate n 0) = vby buf ++ List.replicate n (Value.int .u8 0):=by simp [vby]
    have hne3:∀ j,(Value.slice A2 (buf.length + n) k2).ownBlock ≠ some (⟨g,j,none⟩:Addr).block:=fun _ e => own_ne HO3.out HK3.out (by decide) e.symm
    refine ⟨fun h => absurd h (by omega),fun _ => ⟨rfl,.slice A2 (buf.length + n) k2,(HK3.out.set_ 1 (.int .u64 0)).set_ 2 (.int .u64 0), ?_⟩, ?_⟩
    · rw [e1,e2]
      exact own_set (own_set HO3.out (p:=⟨g,1,none⟩) (hne3 1) _) (p:=⟨g,2,none⟩) (hne3 2) _
    · rw [HW3.out]
      have hf2:Fr (fun k => k = g ∨ base ≤ k) w w2:=((Fr.refl (fun k => k = g ∨ base ≤ k) w).drew.drew).trans (Fr.grown HG2.out (S:=fun k => k = g ∨ base ≤ k) (fun k hk => .inr (HO.out.lt k hk).1)) (fun g hg => .inl hg)
      exact ((hf2.setCell (p:=⟨g,0,none⟩) (.inl (.inl rfl)) _).setCell (p:=⟨g,1,none⟩) (.inl (.inl rfl)) _).setCell (p:=⟨g,2,none⟩) (.inl (.inl rfl)) _
theorem numL_snoc (d:List Nat) (x:Nat):numL (d ++ [x]) = numL d + (x + 1) * 2 ^ d.length:=by
 induction d with
 | nil => simp [numL]
 | cons y d ih =>
   rw [List.cons_append,numL,numL,ih,List.length_cons,Nat.pow_succ]
   have:(x + 1) * (2 ^ d.length * 2) = 2 * ((x + 1) * 2 ^ d.length):=by rw [← Nat.mul_assoc,Nat.mul_comm]
   omega
theorem numL_big (d:List Nat):2 ^ d.length ≤ numL d + 1:=by
 induction d with
 | nil => simp [numL]
 | cons y d ih => rw [numL,List.length_cons,Nat.pow_succ];omega
def RunOK (d:List Nat) (n W:Nat):Prop:=(numL d ≤ 65536 ∧ n = numL d ∧ max 1 (2 * W) = 2 ^ d.length ∧ W ≤ 32768) ∨ (65536 < numL d ∧ n = 65537)
theorem RunOK.nil:RunOK [] 0 0:=.inl ⟨by simp [numL],rfl,rfl,by omega⟩
theorem RunOK.le {d:List Nat} {n W:Nat} (h:RunOK d n W):n ≤ 65537:=by rcases h with ⟨h1,h2,_,_⟩ | ⟨_,h⟩ <;> omega
theorem RunOK.low {d:List Nat} {n W x:Nat} (h1:numL d ≤ 65536) (h2:n = numL d) (h3:max 1 (2 * W) = 2 ^ d.length) (h5:n + (x + 1) * max 1 (2 * W) ≤ 65536) (hx:x < 2):RunOK (d ++ [x]) (n + (x + 1) * max 1 (2 * W)) (max 1 (2 * W)):=by
 left
 have e:n + (x + 1) * max 1 (2 * W) = numL (d ++ [x]):=by rw [numL_snoc,h2,h3]
 refine ⟨by omega,e, ?_, ?_⟩
 · rw [h3,List.length_append,List.length_singleton,Nat.pow_succ]
   have:1 ≤ 2 ^ d.length:=Nat.one_le_two_pow
   omega
 · have hb:=numL_big (d ++ [x])
   rw [List.length_append,List.length_singleton,Nat.pow_succ] at hb
   rw [h3]
   -- a power of two below 32769
   rcases Nat.lt_or_ge d.length 16 with g | g
   · have:2 ^ d.length ≤ 2 ^ 15:=Nat.pow_le_pow_right (by decide) (by omega)
     omega
   · have:2 ^ 16 ≤ 2 ^ d.length:=Nat.pow_le_pow_right (by decide) g
     omega
set_option maxHeartbeats 2000000 in
theorem digit_any (g base n W x:Nat) (buf dg:List Nat) (d:Value) (w:World) (h:RdrS w base g buf n W d) (hr:RunOK dg n W) (hx:x < 2) :
 Calls Tryz.prog 131 #[.pointer (some ⟨g,0,none⟩),.int .u64 x] w fun e w' => e = .returned (.tuple #[.bool false,.int .i64 0]) ∧ (∃ n' W',RdrS w' base g buf n' W' d ∧ RunOK (dg ++ [x]) n' W') ∧ Fr (fun k => k = g) w w':=by
 obtain ⟨v,hk,hown⟩:=h
 have hne:v.ownBlock ≠ some g:=fun e => own_ne hown hk (by decide) e.symm
 have HO:=hide hown
 have HNE:=hide hne
 have hx2:(x:Int) < 2:=by omega
 have keep:∀ w',Fr (fun k => k = g) w w' → w'.ownsRow base 5 1 v buf.length (vby buf):=fun w' hf => own_fr HO.out hf (fun k hk2 e => HNE.out (by rw [hk2,e]))
 have HKeep:=hide keep
 have hres:∀ (W1:World) (n1 W1':Nat),Bk W1 g 138 #[v,.int .u64 n1,.int .u64 W1',d] → Fr (fun k => k = g) w W1 → RunOK (dg ++ [x]) n1 W1' → (∃ n' W',RdrS W1 base g buf n' W' d ∧ RunOK (dg ++ [x]) n' W'):=fun W1 n1 W1' hb hf ho => ⟨n1,W1',⟨v,hb,HKeep.out W1 hf⟩,ho⟩
 have HRes:=hide hres
 clear hown hne keep hres
 rcases hr with ⟨r1,r2,r3,r4⟩ | ⟨r1,r2⟩
 · have ha:=runadd_low g n W x 138 v d w hk (by omega) r4 hx
   by_cases hle:n + (x + 1) * max 1 (2 * W) ≤ 65536
   · have HL:=hide (RunOK.low (x:=x) r1 r2 r3 hle hx)
     have hd:decide (n + (x + 1) * max 1 (2 * W) ≤ 65536) = true:=decide_eq_true hle
     rw [hd] at ha
     generalize n + (x + 1) * max 1 (2 * W) = n1 at ha HL hle hd
     generalize max 1 (2 * W) = V at ha HL r3
     have HA:=hide ha
     clear ha r3 hle hd
     go_enter Tryz.func131,Tryz.ntmps131
     go_wp2_with (go_at_call 182;refine (Calls.mono HA.out ?_);rintro e w1 ⟨rfl,hb1,hf1⟩;have HB1:=hide hb1;have HF1:=hide hf1;clear hb1 hf1)
     refine bodyPost_ret (v:=.tuple #[.bool false,.int .i64 0]) (by simp [results,Tryz.results131,go_sem]) rfl ?_
     exact ⟨rfl,HRes.out _ _ _ HB1.out HF1.out HL.out,HF1.out⟩
   · have HL:Hid (65536 < numL (dg ++ [x])):=hide (by rw [numL_snoc,← r2,← r3];omega)
     have hd:decide (n + (x + 1) * max 1 (2 * W) ≤ 65536) = false:=decide_eq_false hle
     rw [hd] at ha
     generalize n + (x + 1) * max 1 (2 * W) = n1 at ha hle hd
     generalize max 1 (2 * W) = V at ha r3
     have HA:=hide ha
     clear ha r3 hle hd
     go_enter Tryz.func131,Tryz.ntmps131
     go_wp2_with (go_at_call 182;refine (Calls.mono HA.out ?_);rintro e w1 ⟨rfl,hb1,hf1⟩;have HB1:=hide hb1;have HF1:=hide hf1;have f1:=hb1.free 1;have c1:=(four_cells hb1).2.1;clear hb1 hf1)
     refine bodyPost_ret (v:=.tuple #[.bool false,.int .i64 0]) (by simp [results,Tryz.results131,go_sem]) rfl ?_
     exact ⟨rfl,HRes.out _ 65537 _ (HB1.out.set_ 1 (.int .u64 65537)) (HF1.out.setCell (p:=⟨g,1,none⟩) (.inl rfl) _) (.inr ⟨HL.out,rfl⟩),HF1.out.setCell (p:=⟨g,1,none⟩) (.inl rfl) _⟩
 · subst r2
   have ha:=runadd_high g W x 138 v d w hk hx
   have HL:Hid (65536 < numL (dg ++ [x])):=hide (by rw [numL_snoc];omega)
   have HA:=hide ha
   clear ha
   go_enter Tryz.func131,Tryz.ntmps131
   go_wp2_with (go_at_call 182;refine (Calls.mono HA.out ?_);rintro e w1 ⟨rfl,⟨n1,V1,hb1⟩,hf1⟩;have HB1:=hide hb1;have HF1:=hide hf1;have f1:=hb1.free 1;have c1:=(four_cells hb1).2.1;clear hb1 hf1)
   refine bodyPost_ret (v:=.tuple #[.bool false,.int .i64 0]) (by simp [results,Tryz.results131,go_sem]) rfl ?_
   exact ⟨rfl,HRes.out _ 65537 _ (HB1.out.set_ 1 (.int .u64 65537)) (HF1.out.setCell (p:=⟨g,1,none⟩) (.inl rfl) _) (.inr ⟨HL.out,rfl⟩),HF1.out.setCell (p:=⟨g,1,none⟩) (.inl rfl) _⟩
set_option maxHeartbeats 2000000 in
theorem over_any (g base n W x:Nat) (buf dg:List Nat) (d:Value) (w:World) (h:RdrS w base g buf n W d) (hr:RunOK dg n W) (hx:2 ≤ x) (hx2:x < 258) (hb:buf.length ≤ 600) (hbase:base ≤ w.heap.size) (hov:65536 < buf.length + numL dg) :
 Calls Tryz.prog 131 #[.pointer (some ⟨g,0,none⟩),.int .u64 x] w fun e w' => e = .returned (.tuple #[.bool false,.int .i64 8]) ∧ Fr (fun k => k = g ∨ base ≤ k) w w':=by
 have hn:=hr.le
 have hbig:65536 - buf.length < n:=by rcases hr with ⟨h1,h2,_,_⟩ | ⟨_,h2⟩ <;> omega
 have HC:=hide (close_any g base n W buf d w h hn hb hbase)
 have hxi:¬ (x:Int) < 2:=by omega
 clear h hr hov
 go_enter Tryz.func131,Tryz.ntmps131
 go_wp2_with (go_at_call 183;refine (Calls.mono HC.out ?_);rintro e w1 ⟨hA,_,hf⟩;have HF:=hide hf;have hA2:=hA hbig;obtain ⟨rfl,_⟩:=hA2;clear hA hf)
 refine bodyPost_ret (v:=.tuple #[.bool false,.int .i64 8]) (by simp [results,Tryz.results131,go_sem]) rfl ?_
 exact ⟨rfl,HF.out⟩
set_option maxHeartbeats 2000000 in
theorem end_any (g base n W:Nat) (buf dg:List Nat) (d:Value) (w:World) (h:RdrS w base g buf n W d) (hr:RunOK dg n W) (hb:buf.length ≤ 600) (hbase:base ≤ w.heap.size) (hov:buf.length + numL dg ≤ 65536) :
 Calls Tryz.prog 131 #[.pointer (some ⟨g,0,none⟩),.int .u64 257] w fun e w' => e = .returned (.tuple #[.bool true,.int .i64 0]) ∧ RdrS w' base g (buf ++ List.replicate (numL dg) 0) 0 0 d ∧ Fr (fun k => k = g ∨ base ≤ k) w w':=by
 have hn:=hr.le
 have hnn:n = numL dg:=by rcases hr with ⟨h1,h2,_,_⟩ | ⟨h2,_⟩ <;> omega
 rw [← hnn] at hov ⊢
 have hsm:n ≤ 65536 - buf.length:=by omega
 have HC:=hide (close_any g base n W buf d w h hn hb hbase)
 clear h hr hov hnn
 go_enter Tryz.func131,Tryz.ntmps131
 go_wp2_with (go_at_call 183;refine (Calls.mono HC.out ?_);rintro e w1 ⟨_,hB,hf⟩;have HF:=hide hf;have hB2:=hB hsm;obtain ⟨rfl,hr1⟩:=hB2;have HR1:=hide hr1;clear hB hf hr1)
 refine bodyPost_ret (v:=.tuple #[.bool true,.int .i64 0]) (by simp [results,Tryz.results131,go_sem]) rfl ?_
 exact ⟨rfl,HR1.out,HF.out⟩
set_option maxHeartbeats 2000000 in
theorem byte_any (g base n W x:Nat) (buf dg:List Nat) (d:Value) (w:World) (h:RdrS w base g buf n W d) (hr:RunOK dg n W) (hx:2 ≤ x) (hx2:x < 257) (hb:buf.length ≤ 600) (hbase:base ≤ w.heap.size) (hov:buf.length + numL dg ≤ 65536) :
 Calls Tryz.prog 131 #[.pointer (some ⟨g,0,none⟩),.int .u64 x] w fun e w' => (buf.length + numL dg = 65536 → e = .returned (.tuple #[.bool false,.int .i64 8])) ∧ (buf.length + numL dg < 65536 → e = .returned (.tuple #[.bool false,.int .i64 0]) ∧ RdrS w' base g (buf ++ List.replicate (numL dg) 0 ++ [x - 1]) 0 0 d) ∧ Fr (fun k => k = g ∨ base ≤ k) w w':=by
 have hn:=hr.le
 have hnn:n = numL dg:=by rcases hr with ⟨h1,h2,_,_⟩ | ⟨h2,_⟩ <;> omega
 rw [← hnn] at hov ⊢
 have hsm:n ≤ 65536 - buf.length:=by omega
 have HC:=hide (close_any g base n W buf d w h hn hb hbase)
 obtain ⟨B2,hB2⟩:∃ B2,B2 = buf ++ List.replicate n 0:=⟨_,rfl⟩
 have hl2:B2.length = buf.length + n:=by rw [hB2];simp
 rw [← hB2] at HC ⊢
 have hxi:¬ (x:Int) < 2:=by omega
 have hx3:¬ (257:Int) < (x:Int):=by omega
 have hx4:¬ (x:Int) = 257:=by omega
 obtain ⟨i0,hi,hz0,hz1,hz2⟩:=info_parts info_u8
 clear h hr hnn hB2
 rw [← hl2] at hov ⊢
 by_cases hfull:B2.length = 65536
 · have hfi:((B2.length:Int) = 65536):=by omega
   have HL:=hide hl2
   clear hl2
   go_enter Tryz.func131,Tryz.ntmps131
   go_wp2_with (go_at_call 183;refine (Calls.mono HC.out ?_);rintro e w1 ⟨_,hB,hf⟩;have HF:=hide hf;have hB2:=hB hsm;obtain ⟨rfl,v1,hk1,ho1⟩:=hB2;obtain ⟨A1,k1,rfl⟩:=own_form3 ho1;have c0:=(four_cells hk1).1;have HK1:=hide hk1;have HO1:=hide ho1;clear hB hf hk1 ho1)
   refine bodyPost_ret (v:=.tuple #[.bool false,.int .i64 8]) (by simp [results,Tryz.results131,go_sem]) rfl ?_
   exact ⟨fun _ => rfl,fun h => absurd h (by omega),HF.out⟩
 · have hfi:¬ ((B2.length:Int) = 65536):=by omega
   have HL:=hide hl2
   obtain ⟨y,rfl⟩:∃ y,x = y + 1:=⟨x - 1,by omega⟩
   have hy:y < 256:=by omega
   have ey:IntKind.u8.wrap (y:Int) = y:=by rw [IntKind.wrap_u8];omega
   clear hl2
   go_enter Tryz.func131,Tryz.ntmps131
   go_wp2_with (first
    | (go_at_call 183;refine (Calls.mono HC.out ?_);rintro e w1 ⟨_,hB,hf⟩;have HF:=hide hf;have hB2:=hB hsm;obtain ⟨rfl,v1,hk1,ho1⟩:=hB2;obtain ⟨A1,k1,rfl⟩:=own_form3 ho1;have c0:=(four_cells hk1).1;have HK1:=hide hk1;have HO1:=hide ho1;have hz1w:=hf.size;clear hB hf hk1 ho1)
    | (at_builtin;refine wpList_append_own _ rfl (.tmp 41) (.tmp 45) 38 rfl base 5 i0 (.int .u8 0) 1 1 Tryz.underlying38 hi hz0 hz1 hz2 rfl (by decide) _ _ _ rfl (HO1.out.alloc _) ⟨w1.heap.size,0,none⟩ 1 1 [.int .u8 y] rfl rfl (cell_one_new _ _ _) (by intro u hu;simp at hu;subst hu;rfl) (by unfold maxLen;omega) (by omega) (by simp;omega) ?_;intro v2 w2 hown2 hgr2 _
       have hk2:=(HK1.out.alloc (.cells #[.int .u8 y] 5)).grown hgr2 (own_ne HO1.out HK1.out (by decide))
       obtain ⟨A2,k2,rfl⟩:=own_form3 hown2
       have c02:=(four_cells hk2).1
       have f02:=hk2.free 0
       have HK2:=hide hk2
       have HO2:=hide hown2
       have HG2:=hide hgr2
       clear hk2 hown2 hgr2))
   refine bodyPost_ret (v:=.tuple #[.bool false,.int .i64 0]) (by simp [results,Tryz.results131,go_sem]) rfl ?_
   refine ⟨fun h => absurd h hfull,fun _ => ⟨rfl,.slice A2 (B2.length + 1) k2,HK2.out.set_ 0 _, ?_⟩, ?_⟩
   · rw [Nat.add_sub_cancel,List.length_append,List.length_singleton,show vby (B2 ++ [y]) = vby B2 ++ [Value.int .u8 y] by simp [vby]]
     exact own_set HO2.out (p:=⟨g,0,none⟩) (fun e => own_ne HO2.out HK2.out (by decide) e.symm) _
   · exact ((HF.out.alloc (.cells #[.int .u8 y] 5)).trans (Fr.grown HG2.out (S:=fun k => k = g ∨ base ≤ k) (fun k hk => .inr (HO1.out.lt k hk).1)) (fun g hg => .inl hg)).setCell (p:=⟨g,0,none⟩) (.inl (.inl rfl)) _
def GallP (g base:Nat) (d:Value) (R:Int × List Nat × Nat) (w:World) (e:Ending) (w':World):Prop :=
 (R.1 = 0 → e = .returned (.tuple #[.int .i64 R.2.2,.int .i64 0]) ∧ RdrS w' base g R.2.1 0 0 d) ∧ (R.1 ≠ 0 → e = .returned (.tuple #[.int .i64 0,.int .i64 R.1])) ∧ Fr (fun k => k = g ∨ w.heap.size ≤ k) w w'
theorem GallP.bad {g base:Nat} {d:Value} {R:Int × List Nat × Nat} {w w':World} {z:Int} {l:List Nat} {a:Nat} (h:R = (z,l,a)) (hz:z ≠ 0) (hf:Fr (fun k => k = g ∨ w.heap.size ≤ k) w w'):GallP g base d R w (.returned (.tuple #[.int .i64 0,.int .i64 z])) w':=by
 subst h;exact ⟨fun e => absurd e hz,fun _ => rfl,hf⟩
theorem GallP.good {g base:Nat} {d:Value} {R:Int × List Nat × Nat} {w w':World} {l:List Nat} {a:Nat} (h:R = (0,l,a)) (hl:RdrS w' base g l 0 0 d) (hf:Fr (fun k => k = g ∨ w.heap.size ≤ k) w w'):GallP g base d R w (.returned (.tuple #[.int .i64 a,.int .i64 0])) w':=by
 subst h;exact ⟨fun _ => ⟨rfl,hl⟩,fun e => absurd rfl e,hf⟩
theorem RdrS.cells {w:World} {base g:Nat} {buf:List Nat} {n W:Nat} {d:Value} (h:RdrS w base g buf n W d):∃ A c,w.cell? ⟨g,0,none⟩ = some (.slice A buf.length c) ∧ w.cell? ⟨g,3,none⟩ = some d:=by
 obtain ⟨v,hk,ho⟩:=h
 obtain ⟨A,c,rfl⟩:=own_form3 ho
 exact ⟨A,c,(four_cells hk).1,(four_cells hk).2.2.2⟩
theorem keep_ca {w w1:World} {p:Addr} {v:Value} (hb:Below w.heap.size w w1) (h:w.cell? p = some v):w1.cell? p = some v:=(hb.cell (World.block_lt_of_cell? w _ h)).trans h
theorem RdrS.alloc {w:World} {base g:Nat} {buf:List Nat} {n W:Nat} {d:Value} (h:RdrS w base g buf n W d) (o:Obj):RdrS (w.alloc o) base g buf n W d:=by
 obtain ⟨v,hk,ho⟩:=h
 exact ⟨v,hk.alloc o,ho.alloc o⟩
theorem RdrS.below {w w':World} {base g:Nat} {buf:List Nat} {n W:Nat} {d:Value} (h:RdrS w base g buf n W d) (hb:Below w.heap.size w w'):RdrS w' base g buf n W d:=by
 obtain ⟨v,hk,ho⟩:=h
 exact ⟨v,hk.keep hb,own_fr ho (Fr.below hb (fun _ => False)) (fun _ _ e => e)⟩
set_option maxHeartbeats 4000000 in
theorem gall_any (g B p N a0:Nat) (s:ByteArray) (ls:List Int) (A:Option Addr) (c:Nat) (w:World) (h:Bk w g 138 #[.slice none 0 0,.int .u64 0,.int .u64 0,.pointer (some ⟨p,0,none⟩)]) (hB:Book w B p ls A c) (hBg:B ≤ g) (hlen:ls.length = 258) (hN:N ≤ 1048576) (hs:s.size = (N + 7) / 8) (ha:a0 ≤ N) :
 Calls Tryz.prog 87 #[.pointer (some ⟨g,0,none⟩),bstr s N,.int .i64 a0] w (GallP g (w.heap.size + 1) (.pointer (some ⟨p,0,none⟩)) (gathR ls s N (N + 1) [] [] a0) w):=by
 obtain ⟨d,hd⟩:∃ d:Value,d = .pointer (some ⟨p,0,none⟩):=⟨_,rfl⟩
 obtain ⟨R,hR⟩:∃ R,R = gathR ls s N (N + 1) [] [] a0:=⟨_,rfl⟩
 rw [← hd] at h ⊢
 rw [← hR]
 have hglt:=h.lt
 have nx:=fun (a:Nat) (W:World) (ha:a ≤ N) (hW:Fr (fun k => k = g ∨ w.heap.size ≤ k) w W) => next_any B p ls A c s N a W (hB.fr hW (fun k hk => by omega)) (by have:=hW.size;omega) (by omega) hN hs ha
 have h0:RdrS w (w.heap.size + 1) g [] 0 0 d:=⟨.slice none 0 0,h,⟨rfl,.inl ⟨rfl,rfl⟩⟩⟩
 have HR:=hide hR
 have H0:=hide h0
 have HD:=hide hd
 have HNx:=hide nx
 have HL:=hide hlen
 clear nx h hB hR hs h0 hd hlen
 go_enter Tryz.func87,Tryz.ntmps87
 go_wp2_with fail
 go_loopw [2] (fun at_ wr => ∃ (a n V f:Nat) (out dg:List Nat),at_ = .int .i64 a ∧ a ≤ N ∧ N < a + f ∧ out.length ≤ 512 ∧ Hid (RunOK dg n V) ∧ Hid (RdrS wr (w.heap.size + 1) g out n V d) ∧ Hid (Fr (fun k => k = g ∨ w.heap.size ≤ k) w wr) ∧ Hid (Bk wr w.heap.size 27 #[.string s,.int .i64 N]) ∧ Hid (R = gathR ls s N f out dg a)) (fun at_ _ => N - (intOf at_).toNat)
 case atStart => exact ⟨a0,0,0,N + 1,[],[],rfl,ha,by omega,by simp,hide RunOK.nil,hide (H0.out.alloc _),hide ((Fr.refl _ w).alloc _),hide (Bk.new _ _ _),HR⟩
 case round =>
  clear H0 HR
  obtain ⟨a,n,V,f,out,dg,rfl,ha,hf,ho,hrun,hrd,hfr,hbk,hsum⟩:=hrel
  replace hrd:Hid (RdrS wr.drew (w.heap.size + 1) g out n V d):=hide hrd.out
  replace hfr:Hid (Fr (fun k => k = g ∨ w.heap.size ≤ k) w wr.drew):=hide hfr.out.drew
  replace hbk:Hid (Bk wr.drew w.heap.size 27 #[.string s,.int .i64 N]):=hide hbk.out
  obtain ⟨e0,e1⟩:wr.cell? ⟨w.heap.size,0,none⟩ = some (.string s) ∧ wr.cell? ⟨w.heap.size,1,none⟩ = some (.int .i64 N):=two_cells hbk.out
  obtain ⟨A1,k1,hc0,hc3⟩:=hrd.out.cells
  obtain ⟨f,rfl⟩:∃ k,f = k + 1:=⟨f - 1,by omega⟩
  obtain ⟨x,y,z,hn⟩:=trip (nextC ls s N a 15 0 0)
  have hs:=hsum.out
  rw [gathR_step hn] at hs
  have nx:=HNx.out a wr.drew ha hfr.out
  rw [hn] at nx
  have HN:=hide nx
  have hd:=HD.out
  replace hc3:wr.cell? ⟨g,3,none⟩ = some (.pointer (some ⟨p,0,none⟩)):=by rw [hd] at hc3;exact hc3
  clear hd
  have hsz:w.heap.size ≤ wr.heap.size:=hfr.out.size
  have hbs:w.heap.size < wr.heap.size:=hbk.out.lt
  clear hsum nx hc0
  have hframe:∀ w1 w2,Below wr.drew.heap.size wr.drew w1 → Fr (fun k => k = g ∨ w.heap.size + 1 ≤ k) w1 w2 → Fr (fun k => k = g ∨ w.heap.size ≤ k) w w2 ∧ Bk w2 w.heap.size 27 #[.string s,.int .i64 N]:=fun w1 w2 hb hf2 =>
   ⟨(hfr.out.trans (Fr.below hb (fun _ => False)) (fun _ e => e.elim)).trans hf2 (fun k hk => by rcases hk with hk | hk;exact .inl (.inl hk);exact .inl (.inr (by omega))),(hbk.out.keep hb).fr hf2 (by omega)⟩
  have HFrm:=hide hframe
  clear hframe
  go_wp2_with fail
  go_region_held3 (fun w' => w'.cell? ⟨g,3,none⟩ = some (.pointer (some ⟨p,0,none⟩)) ∧ w'.cell? ⟨w.heap.size,0,none⟩ = some (.string s) ∧ w'.cell? ⟨w.heap.size,1,none⟩ = some (.int .i64 N))
   (first | exact ⟨hc3,e0,e1⟩ | go_keep | exact ⟨keep_ca HB1.out hc3,keep_ca HB1.out e0,keep_ca HB1.out e1⟩)
   (first | (go_at_call 130;refine (Calls.mono HN.out ?_);rintro e w1 ⟨rfl,hb1⟩;have HB1:=hide hb1;clear hb1))
  have HR1:=hide (hrd.out.below HB1.out)
  have hz1:wr.heap.size ≤ w1.heap.size:=HB1.out.size
  clear hc3 e0 e1
  by_cases h0:z = 0
  · subst h0
    rw [if_pos rfl] at hs
    obtain ⟨i,m,h1,h2,h3,h4,rfl,rfl,h7⟩:=next_read hn
    have hil:i < 258:=by rw [← HL.out];exact (List.getElem?_eq_some_iff.1 h1).1
    rw [Int.toNat_natCast,Int.toNat_natCast] at hs
    clear h1 h7 h3 hn
    by_cases g2:i < 2
    · rw [if_pos (show (i:Int) < 2 by omega)] at hs
      have HS:=hide hs
      have hdl:¬ (512:Int) < (out.length:Int):=by omega
      have ad:=fun (W:World) (h:RdrS W (w.heap.size + 1) g out n V d) => digit_any g (w.heap.size + 1) n V i out dg d W h hrun.out g2
      have HAd:=hide ad
      clear hs ad
      go_wp2_with (go_at_call 131;refine (Calls.mono (HAd.out w1 HR1.out) ?_);rintro e w2 ⟨rfl,⟨n2,V2,hr2,hrun2⟩,hf2⟩;obtain ⟨A2,k2,c02,c32⟩:=hr2.cells;have HR2:=hide hr2;have HRn2:=hide hrun2;have HF2:=hide hf2;clear hr2 hrun2 hf2)
      obtain ⟨q1,q2⟩:=HFrm.out w1 w2 HB1.out (HF2.out.mono (fun k hk => .inl hk))
      go_roundw
      case rel => exact ⟨a + m,n2,V2,f,out,dg ++ [i],by go_num,h4,by omega,ho,HRn2,HR2,hide q1,hide q2,HS⟩
      case measure => simp [intOf];omega
    · rw [if_neg (show ¬ (i:Int) < 2 by omega)] at hs
      by_cases hov:65536 < out.length + numL dg
      · rw [if_pos (by omega)] at hs
        have HS:=hide hs
        have ad:=fun (W:World) (h:RdrS W (w.heap.size + 1) g out n V d) (hW:w.heap.size + 1 ≤ W.heap.size) => over_any g (w.heap.size + 1) n V i out dg d W h hrun.out (by omega) hil (by omega) hW hov
        have HAd:=hide ad
        clear hs ad
        go_wp2_with (go_at_call 131;refine (Calls.mono (HAd.out w1 HR1.out (by omega)) ?_);rintro e w2 ⟨rfl,hf2⟩;have HF2:=hide hf2;clear hf2)
        obtain ⟨q1,q2⟩:=HFrm.out w1 w2 HB1.out HF2.out
        go_ret2
        exact GallP.bad HS.out (by decide) q1
      · by_cases g7:i = 257
        · subst g7
          rw [if_pos (show ((257:Nat):Int) = 257 from rfl),if_pos (show ((257:Nat):Int) = 257 from rfl)] at hs
          have ad:=fun (W:World) (h:RdrS W (w.heap.size + 1) g out n V d) (hW:w.heap.size + 1 ≤ W.heap.size) => end_any g (w.heap.size + 1) n V out dg d W h hrun.out (by omega) hW (by omega)
          have hbl:(out ++ List.replicate (numL dg) 0).length = out.length + numL dg:=by simp
          obtain ⟨Z,hZ⟩:∃ Z,Z = out ++ List.replicate (numL dg) 0:=⟨_,rfl⟩
          rw [← hZ] at hs ad hbl
          have HAd:=hide ad
          clear ad hZ
          by_cases gl:512 < out.length + numL dg
          · rw [if_pos (by omega)] at hs
            have HS:=hide hs
            have hdl:(512:Int) < (Z.length:Int):=by omega
            have HBl:=hide hbl
            clear hs hbl
            go_wp2_with (go_at_call 131;refine (Calls.mono (HAd.out w1 HR1.out (by omega)) ?_);rintro e w2 ⟨rfl,hr2,hf2⟩;obtain ⟨A2,k2,c02,c32⟩:=hr2.cells;have HF2:=hide hf2;clear hf2 hr2)
            obtain ⟨q1,q2⟩:=HFrm.out w1 w2 HB1.out HF2.out
            go_ret2
            exact GallP.bad HS.out (by decide) q1
          · rw [if_neg (by omega)] at hs
            have HS:=hide hs
            have hdl:¬ (512:Int) < (Z.length:Int):=by omega
            have HBl:=hide hbl
            clear hs hbl
            go_wp2_with (go_at_call 131;refine (Calls.mono (HAd.out w1 HR1.out (by omega)) ?_);rintro e w2 ⟨rfl,hr2,hf2⟩;obtain ⟨A2,k2,c02,c32⟩:=hr2.cells;have HF2:=hide hf2;have HR2:=hide hr2;clear hf2 hr2)
            obtain ⟨q1,q2⟩:=HFrm.out w1 w2 HB1.out HF2.out
            go_ret2
            exact GallP.good HS.out HR2.out q1
        · rw [if_neg (show ¬ (i:Int) = 257 by omega),if_neg (show ¬ (i:Int) = 257 by omega)] at hs
          have ad:=fun (W:World) (h:RdrS W (w.heap.size + 1) g out n V d) (hW:w.heap.size + 1 ≤ W.heap.size) => byte_any g (w.heap.size + 1) n V i out dg d W h hrun.out (by omega) (by omega) (by omega) hW (by omega)
          have hbl:(out ++ List.replicate (numL dg) 0 ++ [i - 1]).length = out.length + numL dg + 1:=by simp;omega
          obtain ⟨Z,hZ⟩:∃ Z,Z = out ++ List.replicate (numL dg) 0 ++ [i - 1]:=⟨_,rfl⟩
          rw [← hZ] at hs ad hbl
          have HAd:=hide ad
          clear ad hZ
          by_cases gf:out.length + numL dg = 65536
          · rw [if_pos (by omega)] at hs
            have HS:=hide hs
            have HBl:=hide hbl
            clear hs hbl
            go_wp2_with (go_at_call 131;refine (Calls.mono (HAd.out w1 HR1.out (by omega)) ?_);rintro e w2 ⟨hA,_,hf2⟩;have HF2:=hide hf2;obtain rfl:=hA gf;clear hf2 hA)
            obtain ⟨q1,q2⟩:=HFrm.out w1 w2 HB1.out HF2.out
            go_ret2
            exact GallP.bad HS.out (by decide) q1
          · have gf2:out.length + numL dg < 65536:=by omega
            by_cases gl:512 < out.length + numL dg + 1
            · rw [if_pos gl] at hs
              have HS:=hide hs
              have hdl:(512:Int) < (Z.length:Int):=by omega
              have HBl:=hide hbl
              clear hs hbl
              go_wp2_with (go_at_call 131;refine (Calls.mono (HAd.out w1 HR1.out (by omega)) ?_);rintro e w2 ⟨_,hB,hf2⟩;have HF2:=hide hf2;have hB2:=hB gf2;obtain ⟨rfl,hr2⟩:=hB2;obtain ⟨A2,k2,c02,c32⟩:=hr2.cells;clear hf2 hB hr2)
              obtain ⟨q1,q2⟩:=HFrm.out w1 w2 HB1.out HF2.out
              go_ret2
              exact GallP.bad HS.out (by decide) q1
            · rw [if_neg gl] at hs
              have HS:=hide hs
              have hdl:¬ (512:Int) < (Z.length:Int):=by omega
              have hz512:Z.length ≤ 512:=by omega
              have HBl:=hide hbl
              clear hs hbl
              go_wp2_with (go_at_call 131;refine (Calls.mono (HAd.out w1 HR1.out (by omega)) ?_);rintro e w2 ⟨_,hB,hf2⟩;have HF2:=hide hf2;have hB2:=hB gf2;obtain ⟨rfl,hr2⟩:=hB2;obtain ⟨A2,k2,c02,c32⟩:=hr2.cells;have HR2:=hide hr2;clear hf2 hB hr2)
              obtain ⟨q1,q2⟩:=HFrm.out w1 w2 HB1.out HF2.out
              go_roundw
              case rel => exact ⟨a + m,0,0,f,Z,[],by go_num,h4,by omega,hz512,hide RunOK.nil,HR2,hide q1,hide q2,HS⟩
              case measure => simp [intOf];omega
  · rw [if_neg h0] at hs
    have HF:=hide hs
    clear hs
    go_wp2_with fail
    go_ret2
    exact GallP.bad HF.out h0 (HFrm.out w1 w1 HB1.out (Fr.refl _ _)).1
def SReadP (p:Nat) (t:TypeId) (row:List Nat) (R:Int × List Nat × Nat) (w:World) (e:Ending) (w':World):Prop :=
 (R.1 = 0 → e = .returned (.tuple #[.string (strOf (fromL row R.2.1).1),.int .i64 R.2.2,.int .i64 0]) ∧ Bk w' p t (vby (fromL row R.2.1).2).toArray) ∧ (R.1 ≠ 0 → e = .returned (.tuple #[.string ⟨#[]⟩,.int .i64 0,.int .i64 R.1])) ∧ Fr (fun k => k = p) w w'
theorem SReadP.bad {p:Nat} {t:TypeId} {row:List Nat} {R:Int × List Nat × Nat} {w w':World} {z:Int} {l:List Nat} {a:Nat} (h:R = (z,l,a)) (hz:z ≠ 0) (hf:Fr (fun k => k = p) w w'):SReadP p t row R w (.returned (.tuple #[.string ⟨#[]⟩,.int .i64 0,.int .i64 z])) w':=by
 subst h;exact ⟨fun e => absurd e hz,fun _ => rfl,hf⟩
theorem SReadP.good {p:Nat} {t:TypeId} {row:List Nat} {R:Int × List Nat × Nat} {w w':World} {l:List Nat} {a:Nat} (h:R = (0,l,a)) (hb:Bk w' p t (vby (fromL row l).2).toArray) (hf:Fr (fun k => k = p) w w'):SReadP p t row R w (.returned (.tuple #[.string (strOf (fromL row l).1),.int .i64 a,.int .i64 0])) w':=by
 subst h;exact ⟨fun _ => ⟨rfl,hb⟩,fun e => absurd rfl e,hf⟩
theorem fromL_snoc (s:List Nat):∀ (row:List Nat) (i:Nat),fromL row (s ++ [i]) = ((fromL row s).1 ++ [(fromL row s).2.getD i 0],liftL (fromL row s).2 i):=by
 induction s with
 | nil => intro row i;rfl
 | cons c s ih =>
   intro row i
   rw [List.cons_append,fromL,ih,fromL];rfl
theorem vby_put (X:List Nat) (i c:Nat) (Y:List Nat):(vby (X ++ i :: Y)).set X.length (.int .u8 (c:Nat)) = vby ((X ++ [c]) ++ Y):=by
 unfold vby
 rw [← List.map_set,List.set_append_right _ _ (Nat.le_refl _)]
 simp
theorem fromL_rows {row:List Nat} (h:RowOK row) {s:List Nat} (hs:∀ i ∈ s,i < 256):RowOK (fromL row s).2 ∧ (∀ c ∈ (fromL row s).1,c < 256) ∧ (fromL row s).1.length = s.length:=by
 induction s generalizing row with
 | nil => exact ⟨h,by simp [fromL],rfl⟩
 | cons i s ih =>
   have hi:=hs i (by simp)
   obtain ⟨h1,h2,h3⟩:=ih (h.lift hi) (fun x hx => hs x (List.mem_cons_of_mem _ hx))
   refine ⟨h1,fun c hc => ?_, ?_⟩
   · rcases List.mem_cons.1 hc with rfl | hc
     · have hl:i < row.length:=by rw [h.len];exact hi
       rw [List.getD_eq_getElem?_getD,List.getElem?_eq_getElem hl];exact h.lt _ (List.getElem_mem hl)
     · exact h2 c hc
   · show (fromL (liftL row i) s).1.length + 1 = s.length + 1
     rw [h3]
theorem own_form4 {w:World} {base e n:Nat} {v:Value} {xs:List Value} (h:w.ownsRow base e 1 v n xs) (hn:0 < n):∃ b c,v = .slice (some ⟨b,0,none⟩) n c ∧ base ≤ b ∧ b < w.heap.size ∧ ∃ cs,Bk w b e cs:=by
 rcases h.2 with ⟨_,h0⟩ | ⟨g,cap,cur,hv,hb,hg,_⟩
 · omega
 · exact ⟨g,cap,hv,hb,(Array.getElem?_eq_some_iff.1 hg).1,cur,hg⟩
theorem gath_ok {s:ByteArray} {N:Nat} {ls:List Int} (hl:ls.length = 258) {t:List Nat} {a2 b:Nat} (h:gathR ls s N (N + 1) [] [] b = (0,t,a2)):t.length ≤ 512 ∧ (∀ c ∈ t,c < 256) ∧ a2 ≤ N:=by
 obtain ⟨xs,q1,q2,q3,q4,q5⟩:=gath_read hl (by simp) h
 obtain ⟨t3,e1,e2,e3⟩:=enc_dec q1 (by simp)
 rw [List.nil_append] at e1
 subst e1
 exact ⟨q3,e2,q5⟩
theorem tread_one {s:ByteArray} {N a:Nat} {z:Int} {ls:List Nat} {r:List Bool} (h:readT s N a 258 = (z,ls,r)) (hB:rightB s N = true) (ha:a ≤ N) (q0 q1:Addr) (w:World) (hS:Sent2 w q0 q1) :
 Calls Tryz.prog 85 #[bstr s N,.int .i64 a,.int .i64 258] w fun e w' => (z ≠ 0 → e = .returned (.tuple #[.slice none 0 0,.int .i64 0,.int .i64 z])) ∧ (z = 0 → ∃ (a1 c g:Nat),a1 ≤ N ∧ a1 = N - r.length ∧ e = .returned (.tuple #[.slice (some ⟨g,0,none⟩) 258 c,.int .i64 a1,.int .i64 0]) ∧ w.heap.size ≤ g ∧ Bk w' g 3 ((ls.map fun (l:Nat) => Value.int .i64 l)).toArray) ∧ Below w.heap.size w w':=by
 have hR:=rightB_n hB
 refine Calls.mono (tread_any s N a 258 q0 q1 w hS ⟨by omega,by omega⟩ ⟨by omega,by omega⟩ ⟨by omega,by omega⟩ (by omega)) ?_
 have e:treadX s N a 258 = (z,ls,r):=by
  unfold treadX
  rw [if_pos hB,if_neg (by omega)]
  exact h
 rw [e]
 rintro e w' ⟨hb,⟨h0,a1,c,g,h1,h2,h3,h4,h5⟩ | ⟨h0,rfl⟩⟩
 · have hl:=congrArg List.length h2
   rw [List.length_drop,bitsL_length] at hl
   simp only [Int.toNat_natCast] at h1 hl
   exact ⟨fun hz => absurd h0 hz,fun _ => ⟨a1,c,g,h1,by omega,h3,h4,h5⟩,hb⟩
 · exact ⟨fun _ => rfl,fun hz => absurd hz h0,hb⟩
theorem rd_some {w:World} {B:Nat} {A:Option Addr} {x:Value} {xs:List Value} (h:Rd w B A (x :: xs)):∃ b o,A = some ⟨b,o,none⟩:=by
 obtain ⟨b,o,e,_⟩:=h 0 x rfl
 exact ⟨b,o,e⟩
theorem rd_at {w:World} {B b o:Nat} {xs:List Nat} (h:Rd w B (some ⟨b,o,none⟩) ((xs.map Int.ofNat).map (.int .i64))):∀ j,j < (xs.map Int.ofNat).length → w.cell? ⟨b,o + j,none⟩ = some (.int .i64 ((xs.map Int.ofNat).getD j 0)):=fun j hj => by
 obtain ⟨b',o',e,_,hc⟩:=h j (.int .i64 ((xs.map Int.ofNat)[j])) (by rw [List.getElem?_map,List.getElem?_eq_getElem hj];rfl)
 cases e
 rw [hc,List.getD_eq_getElem?_getD,List.getElem?_eq_getElem hj];rfl
theorem ofNat_beq (xs ys:List Nat):((xs.map Int.ofNat) == (ys.map Int.ofNat)) = decide (xs = ys):=by
 by_cases h:xs = ys
 · subst h;simp
 · rw [decide_eq_false h,beq_eq_false_iff_ne]
   exact fun e => h ((List.map_inj_right (fun _ _ e => Int.ofNat.inj e)).1 e)
theorem equal_any (A:Option Addr) (c gl c1:Nat) (xs ys:List Nat) (w:World) (hx:xs.length = 258) (hy:ys.length = 258) (hA:Rd w w.heap.size A ((xs.map Int.ofNat).map (.int .i64))) (hG:Rd w w.heap.size (some ⟨gl,0,none⟩) ((ys.map Int.ofNat).map (.int .i64))) :
 Calls Tryz.prog 91 #[.slice A 258 c,.slice (some ⟨gl,0,none⟩) 258 c1] w fun e w' => e = .returned (.bool (decide (xs = ys))) ∧ ∃ q,w' = w.drewN q:=by
 obtain ⟨b,o,rfl⟩:∃ b o,A = some ⟨b,o,none⟩:=by
  cases xs with
  | nil => simp at hx
  | cons x xs => exact rd_some hA
 have:=Tryz.slices_Equal_int b o 258 c gl 0 258 c1 (xs.map Int.ofNat) (ys.map Int.ofNat) w (by simp [hx]) (by simp [hy]) (by decide) (by decide) (rd_at hA) (by have:=rd_at hG;simpa using this)
 rw [List.take_of_length_le (by simp [hx]),List.take_of_length_le (by simp [hy]),ofNat_beq] at this
 exact this
set_option maxHeartbeats 8000000 in
theorem read_seg (p:Nat) (tt:TypeId) (row:List Nat) (s:ByteArray) (N a:Nat) (q0 q1:Addr) (w:World) (hr:RowOK row) (h:Bk w p tt (vby row).toArray) (hS:Sent2 w q0 q1) (hB:rightB s N = true) (ha:a ≤ N) :
 Calls Tryz.prog 49 #[.pointer (some ⟨p,0,none⟩),bstr s N,.int .i64 a] w (SReadP p tt row (segR s N a) w):=by
 have hRB:=rightB_n hB
 have hN:N ≤ 1048576:=by omega
 have hs:s.size = (N + 7) / 8:=by omega
 have hplt:=h.lt
 obtain ⟨z,ls,r,hrd⟩:=trip (readT s N a 258)
 have hR:=segR_eq hrd
 have htr:=tread_one hrd hB ha q0 q1 (w.alloc (.cells #[.string s,.int .i64 N] 27)) (hS.below ((Below.refl _ _).alloc (Nat.le_refl _) _) (Nat.le_refl _))
 have HTr:=hide htr
 have HP:=hide h
 have HRk:=hide hr
 clear h hr hRB hB hS htr
 by_cases hz0:z ≠ 0
 · rw [if_neg hz0] at hR
   have HR:=hide hR
   clear hR hrd
   go_enter Tryz.func49,Tryz.ntmps49
   go_wp2_with (first
    | (go_at_call 85;refine (Calls.mono HTr.out ?_);rintro e w1 ⟨hA,hB,hb1⟩;have hA2:=hA hz0;subst hA2;have HB1:=hide hb1;have hz1:=hb1.size;simp only [World.size_alloc] at hz1;clear hA hB hb1))
   go_ret3
   exact SReadP.bad HR.out hz0 (((Fr.refl _ w).alloc _).thenBelow HB1.out (by simp))
 · obtain rfl:z = 0:=by omega
   clear hz0
   rw [if_pos rfl] at hR
   obtain ⟨b1,b2,b3⟩:=read_bits (by decide) hrd
   clear b1 b3 hrd
   have hll:(ls.map Int.ofNat).length = 258:=by rw [List.length_map];exact b2
   have of:=fun (gl c:Nat) (W:World) (hA:Rd W W.heap.size (some ⟨gl,0,none⟩) ((ls.map Int.ofNat).map (.int .i64))) => of_new (some ⟨gl,0,none⟩) (ls.map Int.ofNat) c W hA (by rw [hll];decide)
   rw [hll] at of
   obtain ⟨z2,t,a2,hg⟩:=trip (gathR (ls.map Int.ofNat) s N (N + 1) [] [] (N - r.length))
   have hR2:=segG_eq hg
   rw [hR2] at hR
   have ga:=fun (gl c p2 lo:Nat) (W:World) (a1:Nat) (h1:a1 = N - r.length) (hA:Rd W W.heap.size (some ⟨gl,0,none⟩) ((ls.map Int.ofNat).map (.int .i64))) (hK:BookN W lo p2 (ls.map Int.ofNat) (some ⟨gl,0,none⟩) c) (h2:a1 ≤ N) =>
    gall_any W.heap.size W.heap.size p2 N a1 s (ls.map Int.ofNat) (some ⟨gl,0,none⟩) c (W.alloc (.cells #[.slice none 0 0,.int .u64 0,.int .u64 0,.pointer (some ⟨p2,0,none⟩)] 138)) (Bk.new _ _ _) ((hK.book hA).below ((Below.refl _ _).alloc (Nat.le_refl _) _)) (Nat.le_refl _) hll hN hs h2
   have ga2:∀ (gl c p2 lo:Nat) (W:World) (a1:Nat) (h1:a1 = N - r.length) (hA:Rd W W.heap.size (some ⟨gl,0,none⟩) ((ls.map Int.ofNat).map (.int .i64))) (hK:BookN W lo p2 (ls.map Int.ofNat) (some ⟨gl,0,none⟩) c) (h2:a1 ≤ N),
    Calls Tryz.prog 87 #[.pointer (some ⟨W.heap.size,0,none⟩),bstr s N,.int .i64 a1] (W.alloc (.cells #[.slice none 0 0,.int .u64 0,.int .u64 0,.pointer (some ⟨p2,0,none⟩)] 138)) fun e w' =>
     (z2 = 0 → e = .returned (.tuple #[.int .i64 a2,.int .i64 0]) ∧ RdrS w' (W.heap.size + 2) W.heap.size t 0 0 (.pointer (some ⟨p2,0,none⟩))) ∧ (z2 ≠ 0 → e = .returned (.tuple #[.int .i64 0,.int .i64 z2])) ∧ Fr (fun k => k = W.heap.size ∨ (W.alloc (.cells #[.slice none 0 0,.int .u64 0,.int .u64 0,.pointer (some ⟨p2,0,none⟩)] 138)).heap.size ≤ k) (W.alloc (.cells #[.slice none 0 0,.int .u64 0,.int .u64 0,.pointer (some ⟨p2,0,none⟩)] 138)) w':=by
    intro gl c p2 lo W a1 h1 hA hK h2
    refine Calls.mono (ga gl c p2 lo W a1 h1 hA hK h2) ?_
    subst h1
    rw [hg]
    rintro e w' ⟨x1,x2,x3⟩
    rw [World.size_alloc] at x1
    exact ⟨x1,x2,x3⟩
   have HOf:=hide of
   have HGa:=hide ga2
   have HLl:=hide hll
   clear of ga ga2 hR2
   by_cases hz2n:z2 ≠ 0
   · rw [if_neg hz2n] at hR
     have HR:=hide hR
     clear hR hg hll b2
     go_enter Tryz.func49,Tryz.ntmps49
     go_wp2_with (first
      | (go_at_call 85;refine (Calls.mono HTr.out ?_);rintro e w1 ⟨hA,hB,hb1⟩;have hB2:=hB (by first | rfl | trivial);obtain ⟨a1,c1,gl,ha1,ha1e,rfl,hgl,hk1⟩:=hB2;have HA1:=hide ha1e;have HL1:=hide (show Rd w1 w1.heap.size (some ⟨gl,0,none⟩) ((ls.map Int.ofNat).map (.int .i64)) from by have:=bkRd hk1;rw [List.map_map];exact this);have hglt:=hk1.lt;clear ha1e hk1;have HB1:=hide hb1;have hz1:=hb1.size;simp only [World.size_alloc] at hz1;clear hA hB hb1)
      | (go_at_call 86;refine (Calls.mono (HOf.out gl c1 w1 HL1.out) ?_);rintro e w2 ⟨p2,rfl,hk2,hb2⟩;have HK2:=hide hk2;have HB2:=hide hb2;have hz2:=hb2.size;have HL2:=hide ((HL1.out.below hb2).more hb2.size);have bx:=((Bk.new w 27 #[.string s,.int .i64 N]).keep HB1.out).keep hb2;obtain ⟨bx0,bx1⟩:=two_cells bx;have bxl:=bx.lt;clear hk2 hb2 bx)
      | (go_at_call 87;go_loud (refine (Calls.mono (HGa.out gl c1 p2 w1.heap.size w2 a1 HA1.out HL2.out HK2.out ha1) ?_);rintro e w3 ⟨hA,hB,hf3⟩;have hA2:=hB hz2n;subst hA2;have HF3:=hide hf3;have hz3:=hf3.size;simp only [World.size_alloc] at hz3;clear hA hB hf3)))
     go_ret3
     exact SReadP.bad HR.out hz2n (((((Fr.refl _ w).alloc _).thenBelow HB1.out (by simp)).thenBelow HB2.out (by omega)).alloc _ |>.trans HF3.out (fun k hk => .inr (by simp only [World.size_alloc] at hk;omega)))
   · obtain rfl:z2 = 0:=by omega
     clear hz2n
     rw [if_pos rfl] at hR
     obtain ⟨t1,t2,t3⟩:=gath_ok hll hg
     clear hg hll
     obtain ⟨L,hL⟩:∃ L,L = encZ 0 t:=⟨_,rfl⟩
     have hst:strL (strOf t) = t:=strL_of t2
     have en:=fun (W:World) => encode_any (strOf t) W (by rw [strOf_size];omega)
     rw [hst,← hL] at en
     rw [← hL] at hR
     have hx258:∀ x ∈ L,x < 258:=fun x hx => by rw [hL] at hx;have:=encZ_sym 0 t2 x hx;omega
     have hLl:L.length ≤ 65537:=by rw [hL];have:=encZ_snoc_len t 0;omega
     have hwl:=weightsL_length L
     have wt:=fun (A:Option Addr) (c:Nat) (W:World) (hA:Rd W W.heap.size A (L.map u64V)) => weights_any A L c W hA (by omega) hx258
     have ln:=fun (A:Option Addr) (c:Nat) (W:World) (hA:Rd W W.heap.size A ((weightsL L).map (.int .u64))) => lengths_yes A (weightsL L) c 15 W hA (by rw [hwl];decide) (fun x hx => (weightsL_mem hx).1) (by unfold I64;omega) (seg_packW (by omega))
     rw [hwl] at ln
     have HEn:=hide en
     have HWt:=hide wt
     have HLn:=hide ln
     have HT2:=hide t2
     clear en hx258 hLl hwl wt ln hst hL t2
     by_cases ht0:t = []
     · subst ht0
       rw [if_pos (.inl rfl)] at hR
       have HR:=hide hR
       clear hR t1 t3 b2
       go_enter Tryz.func49,Tryz.ntmps49
       go_wp2_with (first
       | (go_at_call 85;refine (Calls.mono HTr.out ?_);rintro e w1 ⟨hA,hB,hb1⟩;have hB2:=hB (by first | rfl | trivial);obtain ⟨a1,c1,gl,ha1,ha1e,rfl,hgl,hk1⟩:=hB2;have HA1:=hide ha1e;have HL1:=hide (show Rd w1 w1.heap.size (some ⟨gl,0,none⟩) ((ls.map Int.ofNat).map (.int .i64)) from by have:=bkRd hk1;rw [List.map_map];exact this);have hglt:=hk1.lt;clear ha1e hk1;have HB1:=hide hb1;have hz1:=hb1.size;simp only [World.size_alloc] at hz1;clear hA hB hb1)
       | (go_at_call 86;refine (Calls.mono (HOf.out gl c1 w1 HL1.out) ?_);rintro e w2 ⟨p2,rfl,hk2,hb2⟩;have HK2:=hide hk2;have HB2:=hide hb2;have hz2:=hb2.size;have HL2:=hide ((HL1.out.below hb2).more hb2.size);have bx:=((Bk.new w 27 #[.string s,.int .i64 N]).keep HB1.out).keep hb2;obtain ⟨bx0,bx1⟩:=two_cells bx;have bxl:=bx.lt;clear hk2 hb2 bx)
       | (go_at_call 87;go_loud (refine (Calls.mono (HGa.out gl c1 p2 w1.heap.size w2 a1 HA1.out HL2.out HK2.out ha1) ?_);rintro e w3 ⟨hA,hB,hf3⟩;have hA2:=hA (by first | rfl | trivial);obtain ⟨rfl,v3,hk3,ho3⟩:=hA2;obtain ⟨g3,hg3⟩:∃ g3,g3 = w2.heap.size:=⟨_,rfl⟩;rw [← hg3] at hk3;obtain ⟨A3,k3,rfl⟩:=own_form3 ho3;have hcv3:(convert 38 9 (.slice (A3) (0) k3)).run Tryz.prog w3 = .ok (.string (strOf [])) w3:=run_conv Tryz.prog w3 38 5 Tryz.underlying38 Tryz.underlying5 9 Tryz.underlying9 (own_rd ho3) k3;have q3:w3.cell? ⟨w2.heap.size,0,none⟩ = some (.slice (A3) (0) k3):=(by rw [← hg3];exact (four_cells hk3).1);have HG3:=hide hg3;have HK3:=hide hk3;have HO3:=hide ho3;clear hk3 ho3 hg3;have HF3:=hide hf3;have hz3:=hf3.size;simp only [World.size_alloc] at hz3;clear hA hB hf3))
       | (go_at_call 88;refine (Calls.mono (HEn.out w3) ?_);rintro e w4 ⟨A4,c4,rfl,hr4,ha4,hb4⟩;have HR4:=hide hr4;have HB4:=hide hb4;have hz4:=hb4.size;clear hr4 ha4 hb4)
       | (go_at_call 90;refine (Calls.mono (HWt.out A4 c4 w4 HR4.out) ?_);rintro e w5 ⟨g5,rfl,hg5,hk5,hb5⟩;have HK5:=hide hk5;have HB5:=hide hb5;have hz5:=hb5.size;clear hk5 hb5)
       | (go_at_call 89;refine (Calls.mono (HLn.out (some ⟨g5,0,none⟩) 258 w5 (bkRd HK5.out)) ?_);rintro e w6 ⟨⟨A6,c6,rfl,hr6,ha6⟩,hb6⟩;have hz6:=hb6.size;have hb36:Below w3.heap.size w3 w6:=(HB4.out.trans (HB5.out.mono hz4)).trans (hb6.mono (by omega));have q6:=keep_ca hb36 q3;have HB36:=hide hb36;have HR6:=hide hr6;have hgl6:=(HL2.out.alloc (Nat.le_refl _) (.cells #[.slice none 0 0,.int .u64 0,.int .u64 0,.pointer (some ⟨p2,0,none⟩)] 138)).fr HF3.out (fun k hk hS => by simp only [World.size_alloc] at hS;omega);have HL6:=hide ((hgl6.more (by omega)).below hb36);clear hr6 ha6 hb6 hb36 hgl6))
       go_ret3
       exact SReadP.bad HR.out (by decide) ((((((Fr.refl _ w).alloc _).thenBelow HB1.out (by simp)).thenBelow HB2.out (by omega)).alloc _ |>.trans HF3.out (fun k hk => .inr (by simp only [World.size_alloc] at hk;omega))).thenBelow HB36.out (by omega))
     · have hpos:0 < t.length:=List.length_pos_iff.2 ht0
       have htn:((t.length:Int) == 0) = false:=by simp;omega
       have eq:=fun (A:Option Addr) (c gl c1:Nat) (W:World) (hA:Rd W W.heap.size A (((packL (weightsL L) (15:Int).toNat).map Int.ofNat).map (.int .i64))) (hG:Rd W W.heap.size (some ⟨gl,0,none⟩) ((ls.map Int.ofNat).map (.int .i64))) => equal_any A c gl c1 (lensN L) ls W (lensN_length L) b2 hA hG
       have HEq:=hide eq
       clear eq b2
       by_cases hls:lensN L ≠ ls
       · rw [if_pos (.inr hls)] at hR
         have hd:decide (lensN L = ls) = false:=decide_eq_false hls
         rw [hd] at HEq
         have HR:=hide hR
         clear hR t1 t3 hls hd
         go_enter Tryz.func49,Tryz.ntmps49
         go_wp2_with (first
       | (go_at_call 85;refine (Calls.mono HTr.out ?_);rintro e w1 ⟨hA,hB,hb1⟩;have hB2:=hB (by first | rfl | trivial);obtain ⟨a1,c1,gl,ha1,ha1e,rfl,hgl,hk1⟩:=hB2;have HA1:=hide ha1e;have HL1:=hide (show Rd w1 w1.heap.size (some ⟨gl,0,none⟩) ((ls.map Int.ofNat).map (.int .i64)) from by have:=bkRd hk1;rw [List.map_map];exact this);have hglt:=hk1.lt;clear ha1e hk1;have HB1:=hide hb1;have hz1:=hb1.size;simp only [World.size_alloc] at hz1;clear hA hB hb1)
       | (go_at_call 86;refine (Calls.mono (HOf.out gl c1 w1 HL1.out) ?_);rintro e w2 ⟨p2,rfl,hk2,hb2⟩;have HK2:=hide hk2;have HB2:=hide hb2;have hz2:=hb2.size;have HL2:=hide ((HL1.out.below hb2).more hb2.size);have bx:=((Bk.new w 27 #[.string s,.int .i64 N]).keep HB1.out).keep hb2;obtain ⟨bx0,bx1⟩:=two_cells bx;have bxl:=bx.lt;clear hk2 hb2 bx)
       | (go_at_call 87;go_loud (refine (Calls.mono (HGa.out gl c1 p2 w1.heap.size w2 a1 HA1.out HL2.out HK2.out ha1) ?_);rintro e w3 ⟨hA,hB,hf3⟩;have hA2:=hA (by first | rfl | trivial);obtain ⟨rfl,v3,hk3,ho3⟩:=hA2;obtain ⟨g3,hg3⟩:∃ g3,g3 = w2.heap.size:=⟨_,rfl⟩;rw [← hg3] at hk3;obtain ⟨b3,k3,hv3,hb3,hb3l,cs3,hcs3⟩:=own_form4 ho3 hpos;subst hv3;have hb3g:b3 ≠ g3:=Bk.ne_ hcs3 hk3 (by decide);clear hcs3;have hcv3:(convert 38 9 (.slice (some ⟨b3,0,none⟩) (t.length) k3)).run Tryz.prog w3 = .ok (.string (strOf t)) w3:=run_conv Tryz.prog w3 38 5 Tryz.underlying38 Tryz.underlying5 9 Tryz.underlying9 (own_rd ho3) k3;have q3:w3.cell? ⟨w2.heap.size,0,none⟩ = some (.slice (some ⟨b3,0,none⟩) (t.length) k3):=(by rw [← hg3];exact (four_cells hk3).1);have HG3:=hide hg3;have HK3:=hide hk3;have HO3:=hide ho3;clear hk3 ho3 hg3;have HF3:=hide hf3;have hz3:=hf3.size;simp only [World.size_alloc] at hz3;clear hA hB hf3))
       | (go_at_call 88;refine (Calls.mono (HEn.out w3) ?_);rintro e w4 ⟨A4,c4,rfl,hr4,ha4,hb4⟩;have HR4:=hide hr4;have HB4:=hide hb4;have hz4:=hb4.size;clear hr4 ha4 hb4)
       | (go_at_call 90;refine (Calls.mono (HWt.out A4 c4 w4 HR4.out) ?_);rintro e w5 ⟨g5,rfl,hg5,hk5,hb5⟩;have HK5:=hide hk5;have HB5:=hide hb5;have hz5:=hb5.size;clear hk5 hb5)
       | (go_at_call 89;refine (Calls.mono (HLn.out (some ⟨g5,0,none⟩) 258 w5 (bkRd HK5.out)) ?_);rintro e w6 ⟨⟨A6,c6,rfl,hr6,ha6⟩,hb6⟩;have hz6:=hb6.size;have hb36:Below w3.heap.size w3 w6:=(HB4.out.trans (HB5.out.mono hz4)).trans (hb6.mono (by omega));have q6:=keep_ca hb36 q3;have HB36:=hide hb36;have HR6:=hide hr6;have hgl6:=(HL2.out.alloc (Nat.le_refl _) (.cells #[.slice none 0 0,.int .u64 0,.int .u64 0,.pointer (some ⟨p2,0,none⟩)] 138)).fr HF3.out (fun k hk hS => by simp only [World.size_alloc] at hS;omega);have HL6:=hide ((hgl6.more (by omega)).below hb36);clear hr6 ha6 hb6 hb36 hgl6)
       | (go_at_call 91;refine (Calls.mono (HEq.out A6 c6 gl c1 w6 HR6.out (HL6.out.more (by have:=HB36.out.size;omega))) ?_);rintro e w7 ⟨rfl,j7,rfl⟩))
         go_ret3
         exact SReadP.bad HR.out (by decide) (((((((Fr.refl _ w).alloc _).thenBelow HB1.out (by simp)).thenBelow HB2.out (by omega)).alloc _ |>.trans HF3.out (fun k hk => .inr (by simp only [World.size_alloc] at hk;omega))).thenBelow HB36.out (by omega)).drewN _)
       · have hls2:lensN L = ls:=Decidable.not_not.1 hls
         rw [if_neg (by rintro (e | e);exact ht0 e;exact hls e)] at hR
         have hd:decide (lensN L = ls) = true:=decide_eq_true hls2
         rw [hd] at HEq
         have HR:=hide hR
         have HLs:=hide hls2
         clear hR hls hls2 hd ht0
         go_enter Tryz.func49,Tryz.ntmps49
         go_wp2_with (first
       | (go_at_call 85;refine (Calls.mono HTr.out ?_);rintro e w1 ⟨hA,hB,hb1⟩;have hB2:=hB (by first | rfl | trivial);obtain ⟨a1,c1,gl,ha1,ha1e,rfl,hgl,hk1⟩:=hB2;have HA1:=hide ha1e;have HL1:=hide (show Rd w1 w1.heap.size (some ⟨gl,0,none⟩) ((ls.map Int.ofNat).map (.int .i64)) from by have:=bkRd hk1;rw [List.map_map];exact this);have hglt:=hk1.lt;clear ha1e hk1;have HB1:=hide hb1;have hz1:=hb1.size;simp only [World.size_alloc] at hz1;clear hA hB hb1)
       | (go_at_call 86;refine (Calls.mono (HOf.out gl c1 w1 HL1.out) ?_);rintro e w2 ⟨p2,rfl,hk2,hb2⟩;have HK2:=hide hk2;have HB2:=hide hb2;have hz2:=hb2.size;have HL2:=hide ((HL1.out.below hb2).more hb2.size);have bx:=((Bk.new w 27 #[.string s,.int .i64 N]).keep HB1.out).keep hb2;obtain ⟨bx0,bx1⟩:=two_cells bx;have bxl:=bx.lt;clear hk2 hb2 bx)
       | (go_at_call 87;go_loud (refine (Calls.mono (HGa.out gl c1 p2 w1.heap.size w2 a1 HA1.out HL2.out HK2.out ha1) ?_);rintro e w3 ⟨hA,hB,hf3⟩;have hA2:=hA (by first | rfl | trivial);obtain ⟨rfl,v3,hk3,ho3⟩:=hA2;obtain ⟨g3,hg3⟩:∃ g3,g3 = w2.heap.size:=⟨_,rfl⟩;rw [← hg3] at hk3;obtain ⟨b3,k3,hv3,hb3,hb3l,cs3,hcs3⟩:=own_form4 ho3 hpos;subst hv3;have hb3g:b3 ≠ g3:=Bk.ne_ hcs3 hk3 (by decide);clear hcs3;have hcv3:(convert 38 9 (.slice (some ⟨b3,0,none⟩) (t.length) k3)).run Tryz.prog w3 = .ok (.string (strOf t)) w3:=run_conv Tryz.prog w3 38 5 Tryz.underlying38 Tryz.underlying5 9 Tryz.underlying9 (own_rd ho3) k3;have q3:w3.cell? ⟨w2.heap.size,0,none⟩ = some (.slice (some ⟨b3,0,none⟩) (t.length) k3):=(by rw [← hg3];exact (four_cells hk3).1);have HG3:=hide hg3;have HK3:=hide hk3;have HO3:=hide ho3;clear hk3 ho3 hg3;have HF3:=hide hf3;have hz3:=hf3.size;simp only [World.size_alloc] at hz3;clear hA hB hf3))
       | (go_at_call 88;refine (Calls.mono (HEn.out w3) ?_);rintro e w4 ⟨A4,c4,rfl,hr4,ha4,hb4⟩;have HR4:=hide hr4;have HB4:=hide hb4;have hz4:=hb4.size;clear hr4 ha4 hb4)
       | (go_at_call 90;refine (Calls.mono (HWt.out A4 c4 w4 HR4.out) ?_);rintro e w5 ⟨g5,rfl,hg5,hk5,hb5⟩;have HK5:=hide hk5;have HB5:=hide hb5;have hz5:=hb5.size;clear hk5 hb5)
       | (go_at_call 89;refine (Calls.mono (HLn.out (some ⟨g5,0,none⟩) 258 w5 (bkRd HK5.out)) ?_);rintro e w6 ⟨⟨A6,c6,rfl,hr6,ha6⟩,hb6⟩;have hz6:=hb6.size;have hb36:Below w3.heap.size w3 w6:=(HB4.out.trans (HB5.out.mono hz4)).trans (hb6.mono (by omega));have q6:=keep_ca hb36 q3;have HB36:=hide hb36;have HR6:=hide hr6;have hgl6:=(HL2.out.alloc (Nat.le_refl _) (.cells #[.slice none 0 0,.int .u64 0,.int .u64 0,.pointer (some ⟨p2,0,none⟩)] 138)).fr HF3.out (fun k hk hS => by simp only [World.size_alloc] at hS;omega);have HL6:=hide ((hgl6.more (by omega)).below hb36);clear hr6 ha6 hb6 hb36 hgl6)
       | (go_at_call 91;refine (Calls.mono (HEq.out A6 c6 gl c1 w6 HR6.out (HL6.out.more (by have:=HB36.out.size;omega))) ?_);rintro e w7 ⟨rfl,j7,rfl⟩))
         have hk6:=(HK3.out.keep HB36.out)
         have ho6:w6.ownsRow (w2.heap.size + 2) 5 1 (.slice (some ⟨b3,0,none⟩) t.length k3) t.length (vby t):=own_fr HO3.out (Fr.below HB36.out (fun _ => False)) (fun _ _ e => e)
         have hfr6:Fr (fun k => k = p) w (w6.drewN j7):=(((((((Fr.refl _ w).alloc _).thenBelow HB1.out (by simp)).thenBelow HB2.out (by omega)).alloc _ |>.trans HF3.out (fun k hk => .inr (by simp only [World.size_alloc] at hk;omega))).thenBelow HB36.out (by omega)).drewN _)
         have hp6:Bk (w6.drewN j7) p tt (vby row).toArray:=by
          have h1:=((HP.out.alloc (.cells #[.string s,.int .i64 N] 27)).keep HB1.out).keep HB2.out
          have h2:=(h1.alloc (.cells #[.slice none 0 0,.int .u64 0,.int .u64 0,.pointer (some ⟨p2,0,none⟩)] 138)).fr HF3.out (fun hS => by simp only [World.size_alloc] at hS;omega)
          exact (h2.keep HB36.out).drewN _
         have hg3p:g3 ≠ p:=by have:=HG3.out;omega
         have hb3p:b3 ≠ p:=by omega
         obtain ⟨n,hn⟩:∃ n,n = t.length:=⟨_,rfl⟩
         obtain ⟨B0,hB0⟩:∃ B0,B0 = w2.heap.size + 2:=⟨_,rfl⟩
         obtain ⟨W0,hW0⟩:∃ W0,W0 = w6.drewN j7:=⟨_,rfl⟩
         replace hk6:Bk W0 g3 138 #[.slice (some ⟨b3,0,none⟩) n k3,.int .u64 0,.int .u64 0,.pointer (some ⟨p2,0,none⟩)]:=by rw [hW0,hn];exact hk6.drewN _
         replace ho6:W0.ownsRow B0 5 1 (.slice (some ⟨b3,0,none⟩) n k3) n (vby t):=by rw [hW0,hn,hB0];exact ho6
         rw [← hW0] at hfr6 hp6 ⊢
         rw [← HG3.out]
         rw [← hn] at t1 hpos ⊢
         have HN:=hide hn
         have HK6:=hide hk6
         have HO6:=hide ho6
         have HF6:=hide hfr6
         have HP6:=hide hp6
         clear hk6 ho6 hfr6 hp6 hW0 hn hB0 HB36 HR6 HL6 HK5 HB5 HR4 HB4 HK3 HO3 HF3 HL2 HK2 HB2 HL1 HB1 HA1 HEn HWt HLn HOf HGa HEq HTr HLl HP hcv3 q3 q6 bx0 bx1 htn
         go_loopw [77] (fun i wr => ∃ k:Nat,k ≤ n ∧ i = .int .i64 k ∧ Hid (Bk wr p tt (vby (fromL row (t.take k)).2).toArray) ∧ Hid (Bk wr g3 138 #[.slice (some ⟨b3,0,none⟩) n k3,.int .u64 0,.int .u64 0,.pointer (some ⟨p2,0,none⟩)]) ∧ Hid (wr.ownsRow B0 5 1 (.slice (some ⟨b3,0,none⟩) n k3) n (vby ((fromL row (t.take k)).1 ++ t.drop k))) ∧ Hid (Fr (fun k => k = p) w wr)) (fun i _ => n - (intOf i).toNat)
         case atStart => exact ⟨0,by omega,rfl,HP6,HK6,HO6,HF6⟩
         case round =>
          clear HP6 HK6 HO6 HF6
          obtain ⟨k,hk,rfl,hp,hg,ho,hfr⟩:=hrel
          have htk:∀ c ∈ t.take k,c < 256:=fun c hc => HT2.out c (List.mem_of_mem_take hc)
          obtain ⟨o1,o2,o3⟩:=fromL_rows HRk.out htk
          have hkl:(fromL row (t.take k)).1.length = k:=by rw [o3,List.length_take,← HN.out];omega
          have g0:=(four_cells hg.out).1
          by_cases hlt:k < n
          · obtain ⟨x,hx⟩:∃ x,t[k]? = some x:=⟨t[k]'(by rw [← HN.out];exact hlt),List.getElem?_eq_getElem _⟩
            have hx256:=HT2.out x (List.mem_of_getElem? hx)
            have hdr:t.drop k = x :: t.drop (k + 1):=by
             obtain ⟨h1,h2⟩:=List.getElem?_eq_some_iff.1 hx
             rw [List.drop_eq_getElem_cons h1,h2]
            have hst:t.take (k + 1) = t.take k ++ [x]:=by rw [List.take_add_one,hx];rfl
            have hsn:=fromL_snoc (t.take k) row x
            rw [← hst] at hsn
            have fa:=from_any p x tt (fromL row (t.take k)).2 wr.drew o1 hx256 hp.out
            obtain ⟨F1,hF1⟩:∃ F1,F1 = (fromL row (t.take k)).1:=⟨_,rfl⟩
            obtain ⟨F2,hF2⟩:∃ F2,F2 = (fromL row (t.take k)).2:=⟨_,rfl⟩
            rw [← hF1,← hF2] at hsn
            rw [← hF2] at fa o1
            rw [← hF1] at hkl ho
            rw [hdr] at ho
            have hxc:=own_at ho.out (i:=k) (u:=.int .u8 x) (by unfold vby;rw [List.getElem?_map,List.getElem?_append_right (by omega),hkl,Nat.sub_self];rfl)
            obtain ⟨x0,x1⟩:=hxc
            obtain ⟨c,hc⟩:∃ c,c = F2.getD x 0:=⟨_,rfl⟩
            rw [← hc] at hsn fa
            have HFa:=hide fa
            have HSn:=hide hsn
            have HKl:=hide hkl
            clear fa hsn hst hdr hx hF1 hF2 hc htk o1 o2 o3 hp hkl
            go_wp2_with fail
            go_region_held3 (fun w' => w'.cell? ⟨g3,0,none⟩ = some (.slice (some ⟨b3,0,none⟩) n k3))
             (first | exact g0 | exact g01 | (rw [World.cell?_setCell_other _ _ _ _ (fun e => by cases e;exact hb3g rfl)];exact g01) | go_keep)
             (first | (go_at_call 92;refine (Calls.mono HFa.out ?_);rintro e w1 ⟨rfl,hb1,hf1⟩;have hg1:=(show Bk wr.drew g3 138 #[.slice (some ⟨b3,0,none⟩) n k3,.int .u64 0,.int .u64 0,.pointer (some ⟨p2,0,none⟩)] from hg.out).fr hf1 hg3p;have g01:=(four_cells hg1).1;have ho1:=own_fr (w:=wr.drew) (w':=w1) ho.out hf1 (fun k hk e => hb3p ((show b3 = k from Option.some.inj hk).trans e));have hx1:=own_at ho1 (i:=k) (u:=.int .u8 x) (by unfold vby;rw [List.getElem?_map,List.getElem?_append_right (by have:=HKl.out;omega),HKl.out,Nat.sub_self];rfl);obtain ⟨x01,x11⟩:=hx1;have HB1:=hide hb1;have HF1:=hide hf1;have HG1:=hide hg1;have HO1:=hide ho1;clear hb1 hf1 hg1 ho1))
            go_wp2_with fail
            go_roundw
            case rel =>
             refine ⟨k + 1,by omega,by go_num,hide ?_,hide ?_,hide ?_,hide ?_⟩
             · rw [HSn.out];exact HB1.out.far (p:=⟨b3,k,none⟩) (fun e => hb3p e.symm) _
             · exact HG1.out.far (p:=⟨b3,k,none⟩) (fun e => hb3g e.symm) _
             · have h2:=own_put HO1.out (i:=k) (.int .u8 c)
               rw [HSn.out]
               have h3:=vby_put F1 x c (t.drop (k + 1))
               rw [HKl.out] at h3
               rw [h3] at h2
               exact h2
             · exact ((hfr.out.drew).trans HF1.out (fun k hk => .inl hk)).setCell (p:=⟨b3,k,none⟩) (.inr (by show w.heap.size ≤ b3;omega)) _
            case measure => simp [intOf];omega
          · obtain rfl:k = n:=by omega
            have htn:t.take k = t:=List.take_of_length_le (by have:=HN.out;omega)
            have hdn:t.drop k = []:=List.drop_eq_nil_of_le (by have:=HN.out;omega)
            rw [hdn,htn,List.append_nil] at ho
            rw [htn] at hp hkl
            obtain ⟨F1,hF1⟩:∃ F1,F1 = (fromL row t).1:=⟨_,rfl⟩
            rw [← hF1] at ho hkl
            have hcv:(convert 38 9 (.slice (some ⟨b3,0,none⟩) k k3)).run Tryz.prog wr = .ok (.string (strOf F1)) wr:=by
             have:=run_conv Tryz.prog wr 38 5 Tryz.underlying38 Tryz.underlying5 9 Tryz.underlying9 (own_rd ho.out) k3
             rw [hkl] at this
             exact this
            have HFe:=hide hF1
            clear hF1 htn hdn hkl htk o1 o2 o3
            go_wp2_with fail
            go_ret3
            rw [HFe.out]
            exact SReadP.good HR.out hp.out hfr.out
open Go.RowKit
theorem bLen (b:Nat) (l:List Nat) (w:World) (h:Bd w b l):Calls Tryz.prog 50 #[.pointer (some ⟨b,0,none⟩)] w fun e w' => e = .returned (.int .i64 (l.length:Nat)) ∧ w' = w:=by
 obtain ⟨p,v,h1,h2,h3⟩:=h
 obtain ⟨A,c,rfl⟩:=own_form3 h3
 obtain ⟨c0,c1⟩:=two_cells h1
 clear h1 h2 h3
 go_enter Tryz.func50,Tryz.ntmps50
 go_wp2_with fail
 go_ret
 exact ⟨rfl,rfl⟩
def SBackP (R:Int × List Nat) (w:World) (e:Ending) (w':World):Prop:=e = .returned (.tuple #[.string (strOf R.2),.int .i64 R.1]) ∧ Below w.heap.size w w'
theorem SBackP.of {R:Int × List Nat} {w w':World} {z:Int} {l:List Nat} (h:R = (z,l)) (hb:Below w.heap.size w w'):SBackP R w (.returned (.tuple #[.string (strOf l),.int .i64 z])) w':=by subst h;exact ⟨rfl,hb⟩
set_option maxHeartbeats 4000000 in
theorem sback_any (s:ByteArray) (N k:Nat) (q0 q1:Addr) (w:World) (hS:Sent2 w q0 q1) (hB:rightB s N = true) (hk:k ≤ 65536) :
 Calls Tryz.prog 21 #[bstr s N,.int .i64 k] w (SBackP (backR s N k freshL 0 []) w):=by
 have hRB:=rightB_n hB
 have hN:N ≤ 1048576:=by omega
 obtain ⟨R,hR⟩:∃ R,R = backR s N k freshL 0 []:=⟨_,rfl⟩
 rw [← hR]
 have ck:=fun W => check_any s N W ⟨by omega,by omega⟩ (by omega)
 have hz:chkB s N = 0:=by unfold chkB;rw [if_pos hB]
 rw [hz] at ck
 have nw:=fun W => new_any W
 have rd:=fun (p:Nat) (tt:TypeId) (row:List Nat) (a:Nat) (W:World) (hr:RowOK row) (h:Bk W p tt (vby row).toArray) (hW:Below w.heap.size w W) (ha:a ≤ N) => read_seg p tt row s N a q0 q1 W hr h (hS.below hW (Nat.le_refl _)) hB ha
 have d0:decide ((65536:Int) < (k:Int)) = false:=decide_eq_false (by omega)
 have hk0:¬ (k:Int) < 0:=by omega
 have HCk:=hide ck
 have HNw:=hide nw
 have HRd:=hide rd
 have HR:=hide hR
 clear ck nw rd hR hz hRB
 go_enter Tryz.func21,Tryz.ntmps21
 go_wp2_with (first
  | (go_at_call 34;refine (Calls.mono (HCk.out _) ?_);rintro e w0 ⟨rfl,hb0⟩;have HB0:=hide hb0;have hz0:=hb0.size;simp only [World.size_alloc] at hz0;clear hb0)
  | (go_at_call 48;refine (Calls.mono (HNw.out _) ?_);rintro e w1 ⟨rfl,hb1⟩;have HB1:=hide hb1;have hz1:=hb1.size;clear hb1))
 rw [built_row]
 have hbx:Bk w1 w.heap.size 27 #[.string s,.int .i64 N]:=((Bk.new w _ _).keep HB0.out).keep HB1.out
 have hbe:Below w.heap.size w w1:=(((Below.refl _ w).alloc (Nat.le_refl _) _).trans (HB0.out.mono (by simp))).trans (HB1.out.mono (by omega))
 have HBx:=hide hbx
 have HBe:=hide hbe
 clear hbx hbe HCk HNw
 go_loopw [8,29] (fun at_ i wr => ∃ (j a:Nat) (row out:List Nat),at_ = .int .i64 a ∧ i = .int .i64 j ∧ j ≤ k ∧ a ≤ N ∧ out.length ≤ 65536 ∧ RowOK row ∧ Hid (∀ c ∈ out,c < 256) ∧ Hid (R = backR s N (k - j) row a out) ∧ Hid (Bk wr w1.heap.size 82 (vby row).toArray) ∧ Hid (Bd wr (w1.heap.size + 1) out) ∧ Hid (Bk wr w.heap.size 27 #[.string s,.int .i64 N]) ∧ Hid (Below w.heap.size w wr)) (fun _ i _ => k - (intOf i).toNat)
 case atStart =>
  refine ⟨0,0,freshL,[],rfl,rfl,by omega,by omega,by simp,fresh_ok,hide (by simp),hide HR.out,hide ((Bk.new w1 _ _).alloc _),hide ?_,hide ((HBx.out.alloc _).alloc _),hide ((HBe.out.alloc (by omega) _).alloc (by simp;omega) _)⟩
  have:=Bd.new (w1.alloc (Obj.cells (vby freshL).toArray 82))
  rwa [show (w1.alloc (Obj.cells (vby freshL).toArray 82)).heap.size = w1.heap.size + 1 by simp] at this
 case round =>
  clear HBx HBe HR HB0 HB1
  obtain ⟨j,a,row,out,rfl,rfl,hj,ha,ho,hok,hlt,hsum,hbk,hbd,hbx,hbe⟩:=hrel
  obtain ⟨x0,x1⟩:=two_cells hbx.out
  by_cases hjk:j < k
  · obtain ⟨m,hm⟩:∃ m,k - j = m + 1:=⟨k - j - 1,by omega⟩
    have hs:=hsum.out
    rw [hm] at hs
    obtain ⟨z,t,a',hg⟩:=trip (segR s N a)
    rw [backR_step hg] at hs
    have rd:=HRd.out w1.heap.size 82 row a wr hok hbk.out hbe.out ha
    rw [hg] at rd
    have hbdlt:=hbd.out.lt
    have hbxlt:=hbx.out.lt
    have hwl:w.heap.size ≤ w1.heap.size:=by omega
    by_cases hz:z = 0
    · subst hz
      rw [if_pos rfl] at hs
      obtain ⟨r1,r2,r3,r4,r5,r6⟩:=seg_read ha hg
      obtain ⟨q1,q2,q3⟩:=fromL_rows hok r3
      have rd2:Calls Tryz.prog 49 #[.pointer (some ⟨w1.heap.size,0,none⟩),bstr s N,.int .i64 a] wr fun e w' => e = .returned (.tuple #[.string (strOf (fromL row t).1),.int .i64 a',.int .i64 0]) ∧ Bk w' w1.heap.size 82 (vby (fromL row t).2).toArray ∧ Fr (fun k => k = w1.heap.size) wr w':=by
       refine Calls.mono rd ?_
       rintro e w' ⟨h1,_,h3⟩
       obtain ⟨h1,h2⟩:=h1 rfl
       exact ⟨h1,h2,h3⟩
      obtain ⟨X,hX⟩:∃ X,X = (fromL row t).1:=⟨_,rfl⟩
      obtain ⟨Y,hY⟩:∃ Y,Y = (fromL row t).2:=⟨_,rfl⟩
      rw [← hX,← hY] at rd2
      rw [← hX] at q2 q3 hs
      rw [← hY] at q1 hs
      have hsz:(strOf X).size = t.length:=by rw [strOf_size,q3]
      have hst:strL (strOf X) = X:=strL_of q2
      obtain ⟨V,hV⟩:∃ V,V = strOf X:=⟨_,rfl⟩
      rw [← hV] at rd2 hsz hst
      have HRd2:=hide rd2
      have HSt:=hide hst
      have HX:=hide q2
      have HVe:=hide hV
      have hVs:V.size ≤ 512:=by omega
      have bl:=fun (W:World) (h:Bd W (w1.heap.size + 1) out) => bLen (w1.heap.size + 1) out W h
      have HBl:=hide bl
      have bw:=fun (W:World) (h:Bd W (w1.heap.size + 1) out) => bwString (w1.heap.size + 1) out V W h (by omega)
      have HBw:=hide bw
      have hXl:X.length = V.size:=by omega
      clear rd rd2 hg r3 r4 hX hY hst hV hsum bl bw
      by_cases hc:(0 < m ∧ t.length ≠ 512) ∨ 65536 < out.length + t.length
      · rw [if_pos hc] at hs
        have HS:=hide hs
        clear hs
        by_cases hc1:0 < m ∧ t.length ≠ 512
        · have d1:(j:Int) < (k:Int) - 1:=by omega
          have d2:¬ (t.length:Int) = 512:=by omega
          clear hc hc1
          go_wp2_with (first
           | (go_at_call 49;refine (Calls.mono HRd2.out ?_);rintro e w2 ⟨rfl,hk2,hf2⟩;have HF2:=hide hf2;have HK2:=hide hk2;have HD2:=hide (hbd.out.fr hf2 (fun g hg => by omega));clear hk2 hf2)
           | (go_at_call 50;refine (Calls.mono (HBl.out w2 HD2.out) ?_);rintro e w3 ⟨rfl,rfl⟩))
          go_ret2
          exact SBackP.of HS.out (hbe.out.trans (HF2.out.toBelowB (fun g hg => by omega) (by omega)))
        · have hc2:65536 < out.length + t.length:=by rcases hc with hc | hc;exact absurd hc hc1;exact hc
          rcases Nat.eq_zero_or_pos m with hm0 | hm0
          · have d1:¬ (j:Int) < (k:Int) - 1:=by omega
            have d3:(65536:Int) - (t.length:Int) < (out.length:Int):=by omega
            clear hc hc1
            go_wp2_with (first
             | (go_at_call 49;refine (Calls.mono HRd2.out ?_);rintro e w2 ⟨rfl,hk2,hf2⟩;have HF2:=hide hf2;have HK2:=hide hk2;have HD2:=hide (hbd.out.fr hf2 (fun g hg => by omega));clear hk2 hf2)
             | (go_at_call 50;refine (Calls.mono (HBl.out w2 HD2.out) ?_);rintro e w3 ⟨rfl,rfl⟩))
            go_ret2
            exact SBackP.of HS.out (hbe.out.trans (HF2.out.toBelowB (fun g hg => by omega) (by omega)))
          · have d1:(j:Int) < (k:Int) - 1:=by omega
            have d2:(t.length:Int) = 512:=by omega
            have d3:(65024:Int) < (out.length:Int):=by omega
            clear hc hc1
            go_wp2_with (first
             | (go_at_call 49;refine (Calls.mono HRd2.out ?_);rintro e w2 ⟨rfl,hk2,hf2⟩;have HF2:=hide hf2;have HK2:=hide hk2;have HD2:=hide (hbd.out.fr hf2 (fun g hg => by omega));clear hk2 hf2)
             | (go_at_call 50;refine (Calls.mono (HBl.out w2 HD2.out) ?_);rintro e w3 ⟨rfl,rfl⟩))
            go_ret2
            exact SBackP.of HS.out (hbe.out.trans (HF2.out.toBelowB (fun g hg => by omega) (by omega)))
      · rw [if_neg hc] at hs
        have HS:=hide hs
        have hol:(out ++ X).length ≤ 65536:=by rw [List.length_append];omega
        have HOl:=hide hol
        have hmk:k - (j + 1) = m:=by omega
        clear hs hol
        rcases Nat.eq_zero_or_pos m with hm0 | hm0
        · have d1:¬ (j:Int) < (k:Int) - 1:=by omega
          have d3:¬ (65536:Int) - (t.length:Int) < (out.length:Int):=by omega
          clear hc
          go_wp2_with (first
           | (go_at_call 49;refine (Calls.mono HRd2.out ?_);rintro e w2 ⟨rfl,hk2,hf2⟩;have HF2:=hide hf2;have HK2:=hide hk2;have HD2:=hide (hbd.out.fr hf2 (fun g hg => by omega));clear hk2 hf2)
           | (go_at_call 50;refine (Calls.mono (HBl.out w2 HD2.out) ?_);rintro e w3 ⟨rfl,rfl⟩)
           | (go_at_call 51;refine (Calls.mono (HBw.out _ HD2.out) ?_);rintro e w4 ⟨⟨k4,rfl⟩,hd4,hb4⟩;have HD4:=hide hd4;have HB4:=hide hb4;clear hd4 hb4))
          go_roundw
          case rel =>
           refine ⟨j + 1,a',Y,out ++ X,rfl,by go_num,by omega,by omega,HOl.out,q1,hide ?_,hide ?_,hide ?_,hide ?_,hide ?_,hide ?_⟩
           · intro c hc
             rcases List.mem_append.1 hc with hc | hc
             · exact hlt.out c hc
             · exact HX.out c hc
           · rw [hmk];exact HS.out
           · exact HK2.out.below HB4.out (by omega)
           · have:=HD4.out
             rw [HSt.out] at this
             exact this
           · exact (hbx.out.fr HF2.out (by omega)).below HB4.out (by omega)
           · exact (hbe.out.trans (HF2.out.toBelowB (fun g hg => by omega) (by omega))).trans (HB4.out.mono (by omega))
          case measure => simp [intOf];omega
        · have d1:(j:Int) < (k:Int) - 1:=by omega
          have d2:(t.length:Int) = 512:=by omega
          have d3:¬ (65024:Int) < (out.length:Int):=by omega
          clear hc
          go_wp2_with (first
           | (go_at_call 49;refine (Calls.mono HRd2.out ?_);rintro e w2 ⟨rfl,hk2,hf2⟩;have HF2:=hide hf2;have HK2:=hide hk2;have HD2:=hide (hbd.out.fr hf2 (fun g hg => by omega));clear hk2 hf2)
           | (go_at_call 50;refine (Calls.mono (HBl.out w2 HD2.out) ?_);rintro e w3 ⟨rfl,rfl⟩)
           | (go_at_call 51;refine (Calls.mono (HBw.out _ HD2.out) ?_);rintro e w4 ⟨⟨k4,rfl⟩,hd4,hb4⟩;have HD4:=hide hd4;have HB4:=hide hb4;clear hd4 hb4))
          go_roundw
          case rel =>
           refine ⟨j + 1,a',Y,out ++ X,rfl,by go_num,by omega,by omega,HOl.out,q1,hide ?_,hide ?_,hide ?_,hide ?_,hide ?_,hide ?_⟩
           · intro c hc
             rcases List.mem_append.1 hc with hc | hc
             · exact hlt.out c hc
             · exact HX.out c hc
           · rw [hmk];exact HS.out
           · exact HK2.out.below HB4.out (by omega)
           · have:=HD4.out
             rw [HSt.out] at this
             exact this
           · exact (hbx.out.fr HF2.out (by omega)).below HB4.out (by omega)
           · exact (hbe.out.trans (HF2.out.toBelowB (fun g hg => by omega) (by omega))).trans (HB4.out.mono (by omega))
          case measure => simp [intOf];omega
    · rw [if_neg hz] at hs
      have HS:=hide hs
      have HRd1:=hide rd
      clear rd hs hg hsum
      go_wp2_with (go_at_call 49;refine (Calls.mono HRd1.out ?_);rintro e w2 ⟨_,hA,hf2⟩;have HF2:=hide hf2;have hA2:=hA hz;subst hA2;clear hA hf2)
      go_ret2
      exact SBackP.of HS.out (hbe.out.trans (HF2.out.toBelowB (fun g hg => by omega) (by omega)))
  · obtain rfl:j = k:=by omega
    have hs:=hsum.out
    rw [Nat.sub_self,backR] at hs
    have bs:=bString (w1.heap.size + 1) out wr hbd.out hlt.out
    have HBs:=hide bs
    have hbdlt:=hbd.out.lt
    clear hsum bs
    by_cases haN:a = N
    · rw [if_pos haN] at hs
      have HS:=hide hs
      have d9:((a:Int) != (N:Int)) = false:=by simp;omega
      clear hs haN
      go_wp2_with (go_at_call 52;refine (Calls.mono HBs.out ?_);rintro e w2 ⟨rfl,hb2⟩;have HB2:=hide hb2;clear hb2)
      go_ret2
      exact SBackP.of HS.out (hbe.out.trans (HB2.out.mono (by omega)))
    · rw [if_neg haN] at hs
      have HS:=hide hs
      have d9:((a:Int) != (N:Int)) = true:=by simp;omega
      clear hs haN
      go_wp2_with fail
      go_ret2
      exact SBackP.of HS.out hbe.out
theorem six_cells {w:World} {g:Nat} {t:TypeId} {a b c d e f:Value} (h:Bk w g t #[a,b,c,d,e,f]):(w.cell? ⟨g,0,none⟩ = some a ∧ w.cell? ⟨g,1,none⟩ = some b ∧ w.cell? ⟨g,2,none⟩ = some c ∧ w.cell? ⟨g,3,none⟩ = some d ∧ w.cell? ⟨g,4,none⟩ = some e ∧ w.cell? ⟨g,5,none⟩ = some f) ∧ (w.frozen? ⟨g,0,none⟩ = false ∧ w.frozen? ⟨g,1,none⟩ = false ∧ w.frozen? ⟨g,2,none⟩ = false ∧ w.frozen? ⟨g,3,none⟩ = false ∧ w.frozen? ⟨g,4,none⟩ = false ∧ w.frozen? ⟨g,5,none⟩ = false) :=
 ⟨⟨h.cell 0,h.cell 1,h.cell 2,h.cell 3,h.cell 4,h.cell 5⟩,⟨h.free 0,h.free 1,h.free 2,h.free 3,h.free 4,h.free 5⟩⟩
theorem codesN_take {ls:List Nat} {k n:Nat} (h:ls[k]? = some n):codesN (ls.take (k + 1)) = codesN (ls.take k) + if 0 < n then 1 else 0:=by
 unfold codesN
 rw [List.take_add_one,h,List.filter_append,List.length_append]
 by_cases hn:0 < n <;> simp [hn]
theorem longN_take {ls:List Nat} {k n:Nat} (h:ls[k]? = some n):longN (ls.take (k + 1)) = max (longN (ls.take k)) n:=by
 unfold longN
 rw [List.take_add_one,h,List.foldl_append];rfl
structure Seen (t:List Nat) (s:ByteArray) (N a a' T C:Nat) (R:List Bool):Prop where
 read:readT s N a 258 = (0,lensN (encZ 0 t),R)
 at_:N - R.length = a + T
 tab:T = (tabBits (lensL (encZ 0 t))).length
 code:C = ((encZ 0 t).flatMap (codeB (lensL (encZ 0 t)))).length
 end_:a + T + C = a'
 bits:(bitsL s N).drop (a + T) = (encZ 0 t).flatMap (codeB (lensL (encZ 0 t))) ++ (bitsL s N).drop a'
 syms:∀ x ∈ encZ 0 t,∃ n:Nat,(lensL (encZ 0 t))[x]? = some (n:Int) ∧ 1 ≤ n ∧ n ≤ 15
theorem seen_of {t:List Nat} {s:ByteArray} {N a a':Nat} (ha:a ≤ N) (ha2:a' ≤ N) (ht:∀ c ∈ t,c < 256) (hb:(bitsL s N).drop a = segBits (encZ 0 t) ++ (bitsL s N).drop a') :
 ∃ T C R,Seen t s N a a' T C R:=by
 unfold segBits at hb
 rw [List.append_assoc] at hb
 have h1:=read_there (seg_tab (encZ 0 t)) hb
 rw [lensL_length] at h1
 have hd:=drop_len hb ha
 have hm:(lensL (encZ 0 t)).map Int.toNat = lensN (encZ 0 t):=by
  rw [lensL_map,List.map_map]
  conv => rhs;rw [← List.map_id (lensN (encZ 0 t))]
  exact List.map_congr_left fun x _ => by show (Int.ofNat x).toNat = x;simp
 rw [hm] at h1
 have hl:=congrArg List.length hb
 rw [List.length_drop,bitsL_length,List.length_append,List.length_append,List.length_drop,bitsL_length] at hl
 exact ⟨_,_,_,⟨h1,hd.2.2,rfl,rfl,by omega,by rw [← hd.2.2];exact hd.1,encZ_bits ht⟩⟩
set_option maxHeartbeats 4000000 in
theorem look_any (t:List Nat) (s:ByteArray) (N a a':Nat) (q0 q1:Addr) (w:World) (hS:Sent2 w q0 q1) (hB:rightB s N = true) (ha:a ≤ N) (ha2:a' ≤ N) (ht:∀ c ∈ t,c < 256) (h512:t.length ≤ 512) (hb:(bitsL s N).drop a = segBits (encZ 0 t) ++ (bitsL s N).drop a') :
 Calls Tryz.prog 98 #[bstr s N,.int .i64 a,.int .i64 a',.int .i64 t.length] w fun e w' => e = .returned (.agg ((stat6 t).map fun (x:Nat) => Value.int .i64 x).toArray) ∧ Below w.heap.size w w':=by
 have hRB:=rightB_n hB
 have hN:N ≤ 1048576:=by omega
 have hs:s.size = (N + 7) / 8:=by omega
 obtain ⟨T,C,R,hSee⟩:=seen_of ha ha2 ht hb
 have hlen:=lensN_length (encZ 0 t)
 have hlenL:=lensL_length (encZ 0 t)
 have hmap:=lensL_map (encZ 0 t)
 have hok:=seg_ok (encZ 0 t)
 obtain ⟨z,hz⟩:∃ z,z = t.length:=⟨_,rfl⟩
 have htr:=tread_one hSee.read hB ha q0 q1 ((w.alloc (.cells #[.string s,.int .i64 N] 27)).alloc (.cells #[.int .i64 0,.int .i64 0,.int .i64 0,.int .i64 0,.int .i64 0,.int .i64 0] 53)) (hS.below (((Below.refl _ _).alloc (Nat.le_refl _) _).alloc (by simp) _) (Nat.le_refl _))
 obtain ⟨L,hL⟩:∃ L,L = encZ 0 t:=⟨_,rfl⟩
 have hst:(stat6 t).map (fun (x:Nat) => Value.int .i64 x) = [.int .i64 z,.int .i64 (L.length:Nat),.int .i64 (codesN (lensN L):Nat),.int .i64 (longN (lensN L):Nat),.int .i64 T,.int .i64 C]:=by
  rw [hSee.tab,hSee.code,hz,hL];rfl
 have hcode:=hSee.code
 have hend:=hSee.end_
 have hat:=hSee.at_
 have hbits:=hSee.bits
 have hsym:=hSee.syms
 rw [hst]
 rw [← hL] at hcode hbits hsym htr hlen hlenL hmap hok
 rw [← hz]
 have hLl:=codes_many hsym
 rw [← hcode] at hLl
 have HTr:=hide htr
 have HCode:=hide hcode
 have HBits:=hide hbits
 have HSym:=hide hsym
 have HLen:=hide hlen
 have HLenL:=hide hlenL
 have HMap:=hide hmap
 have HOk:=hide hok
 have HAt:=hide hat
 obtain ⟨ls,hls⟩:∃ ls,ls = lensN L:=⟨_,rfl⟩
 rw [← hls] at HTr HLen HMap ⊢
 have hz512:z ≤ 512:=by omega
 clear hS htr hcode hbits hsym hlen hlenL hmap hok hat hL hSee hb hB hRB hls hst ht hz h512
 go_enter Tryz.func98,Tryz.ntmps98
 go_upto_region 2 with (go_at_call 85;refine (Calls.mono HTr.out ?_);rintro e w1 ⟨_,hz1,hb1⟩;obtain ⟨a1,c1,g1,ha1,ha1e,rfl,hg1,hk1⟩:=hz1 rfl;have HB1:=hide hb1;have HK1:=hide hk1;have ha1f:a1 = a + T:=ha1e.trans HAt.out;clear hb1 hz1 hk1 ha1e)
 subst ha1f
 have e1:(a:Int) + (T:Int) - (a:Int) = (T:Int):=by omega
 have e2:(a':Int) - ((a:Int) + (T:Int)) = (C:Int):=by omega
 have hg2:w.heap.size + 1 + 1 ≤ g1:=by simpa using hg1
 have hz1:=HB1.out.size
 simp only [World.size_alloc] at hz1
 have hbW:Below w.heap.size w w1:=by
  have:=HB1.out
  exact (((Below.refl _ w).alloc (Nat.le_refl _) _).alloc (by simp) _).trans (this.mono (by simp;omega))
 have hk0:Bk w1 w.heap.size 27 #[.string s,.int .i64 N]:=((Bk.new w _ _).alloc _).below HB1.out (by simp;omega)
 have hk8:Bk w1 (w.heap.size + 1) 53 #[.int .i64 0,.int .i64 0,.int .i64 0,.int .i64 0,.int .i64 0,.int .i64 0]:=(Bk.new1 w _ _ _).below HB1.out (by simp)
 have HBW:=hide hbW
 have HK0:=hide hk0
 have HK8:=hide hk8
 clear HTr HB1 hbW hk0 hk8 hg1 HAt
 go_wp2_with fail
 have hX:Bk (w1.alloc (.cells #[.int .i64 z,.int .i64 0,.int .i64 0,.int .i64 0,.int .i64 T,.int .i64 C] 53)) w1.heap.size 53 #[.int .i64 z,.int .i64 0,.int .i64 0,.int .i64 0,.int .i64 T,.int .i64 C]:=Bk.new _ _ _
 have HX:=hide hX
 clear hX
 go_loopw [36] (fun i wr => ∃ k:Nat,i = .int .i64 k ∧ k ≤ 258 ∧ Hid (Bk wr w1.heap.size 53 #[.int .i64 z,.int .i64 0,.int .i64 (codesN (ls.take k):Nat),.int .i64 (longN (ls.take k):Nat),.int .i64 T,.int .i64 C]) ∧ Hid (Fr (fun g => g = w1.heap.size) w1 wr)) (fun i _ => 258 - (intOf i).toNat)
 case atStart => exact ⟨0,rfl,by omega,HX,hide ((Fr.refl _ w1).alloc _)⟩
 case round =>
  clear HX
  obtain ⟨k,rfl,hk,HXk,HFk⟩:=hrel
  by_cases hlt:k < 258
  · obtain ⟨n,hn⟩:∃ n,ls[k]? = some n:=⟨ls[k]'(by rw [HLen.out];exact hlt),by simp⟩
    have hcell:wr.cell? ⟨g1,k,none⟩ = some (.int .i64 (n:Nat)):=HFk.out.cell (p:=⟨g1,k,none⟩) (fun e => by have:=HK1.out.lt;simp only at e;omega) (by rw [HK1.out.cell];simp [hn])
    have hc1:=codesN_take hn
    have hl1:=longN_take hn
    obtain ⟨⟨x0,x1,x2,x3,x4,x5⟩,⟨y0,y1,y2,y3,y4,y5⟩⟩:=six_cells HXk.out
    have hcb:codesN (ls.take k) ≤ 258:=by unfold codesN;exact Nat.le_trans (List.length_filter_le _ _) (by rw [List.length_take];omega)
    obtain ⟨c0,hc0⟩:∃ c,c = codesN (ls.take k):=⟨_,rfl⟩
    obtain ⟨l0,hl0⟩:∃ l,l = longN (ls.take k):=⟨_,rfl⟩
    rw [← hc0] at hc1 x2 hcb HXk
    rw [← hl0] at hl1 x3 HXk
    have hnn:ls.getD k 0 = n:=by rw [List.getD_eq_getElem?_getD,hn];rfl
    by_cases hp:0 < n
    · have hp1:(0:Int) < (n:Int):=by omega
      have hmx:max (l0:Int) (n:Int) = ((max l0 n:Nat):Int):=by omega
      rw [if_pos hp] at hc1
      have HC1:=hide hc1
      have HL1:=hide hl1
      clear hc1 hl1 hn hc0 hl0 hnn
      go_wp2_with fail
      go_roundw
      case rel =>
       refine ⟨k + 1,by go_num,by omega,hide ?_,hide ?_⟩
       · rw [HC1.out,HL1.out]
         exact (HXk.out.set_ 2 (.int .i64 ((c0 + 1:Nat):Int))).set_ 3 (.int .i64 ((max l0 n:Nat):Int))
       · exact (HFk.out.setCell (p:=⟨w1.heap.size,2,none⟩) (.inl rfl) _).setCell (p:=⟨w1.heap.size,3,none⟩) (.inl rfl) _
      case measure => simp [intOf];omega
    · have hp1:¬ (0:Int) < (n:Int):=by omega
      rw [if_neg hp] at hc1
      have hn0:n = 0:=by omega
      have hl2:longN (ls.take (k + 1)) = l0:=by rw [hl1];omega
      have HC1:=hide hc1
      have HL1:=hide hl2
      clear hc1 hl1 hl2 hn hc0 hl0 hnn hn0
      go_wp2_with fail
      go_roundw
      case rel =>
       refine ⟨k + 1,by go_num,by omega,hide ?_,HFk⟩
       rw [HC1.out,HL1.out]
       exact HXk.out
      case measure => simp [intOf];omega
  · have hk258:k = 258:=by omega
    subst hk258
    have hfull:ls.take 258 = ls:=List.take_of_length_le (by rw [HLen.out];exact Nat.le_refl _)
    rw [hfull] at HXk
    obtain ⟨c0,hc0⟩:∃ c,c = codesN ls:=⟨_,rfl⟩
    obtain ⟨l0,hl0⟩:∃ l,l = longN ls:=⟨_,rfl⟩
    rw [← hc0] at HXk
    rw [← hl0] at HXk
    have hXlt:=HXk.out.lt
    have hrd:Rd wr wr.heap.size (some ⟨g1,0,none⟩) ((lensL L).map (.int .i64)):=fun i u hu => by
     have hne:g1 ≠ w1.heap.size:=fun e => by have:=HK1.out.lt;omega
     have hk2:=HK1.out.fr HFk.out hne
     refine ⟨g1,0,rfl,hk2.lt, ?_⟩
     rw [Nat.zero_add,hk2.cell]
     rw [HMap.out,List.map_map] at hu
     simpa using hu
    have of_:=of_new (some ⟨g1,0,none⟩) (lensL L) c1 wr hrd (by rw [HLenL.out];decide)
    rw [HLenL.out] at of_
    have hz2:=HFk.out.size
    have HC0:=hide hc0
    have HL0:=hide hl0
    have HOf:=hide of_
    have HRd:=hide hrd
    clear hc0 hl0 hfull of_ hrd
    go_upto_region 11 with (go_at_call 86;refine (Calls.mono HOf.out ?_);rintro e w2 ⟨p,rfl,hbk,hb2⟩;have HBk:=hide hbk;have HB2:=hide hb2;clear hbk hb2)
    obtain ⟨lo,hlo⟩:∃ lo,lo = wr.heap.size:=⟨_,rfl⟩
    have hXw:w1.heap.size < lo:=by omega
    rw [← hlo] at HBk hz2
    have hX2:=HXk.out.keep HB2.out
    have hrd2:Rd w2 w2.heap.size (some ⟨g1,0,none⟩) ((lensL L).map (.int .i64)):=(HRd.out.below HB2.out).more HB2.out.size
    have hbe2:Below w.heap.size w w2:=(HBW.out.trans ((HFk.out.toBelowB (fun g hg => by omega) (Nat.le_refl _)).mono (by omega))).trans (HB2.out.mono (by omega))
    have hk02:Bk w2 w.heap.size 27 #[.string s,.int .i64 N]:=(HK0.out.fr HFk.out (by omega)).keep HB2.out
    have hk82:Bk w2 (w.heap.size + 1) 53 #[.int .i64 0,.int .i64 0,.int .i64 0,.int .i64 0,.int .i64 0,.int .i64 0]:=(HK8.out.fr HFk.out (by omega)).keep HB2.out
    have hg1X:g1 ≠ w1.heap.size:=fun e => by have:=HK1.out.lt;omega
    have hz3:=HB2.out.size
    have HX2:=hide hX2
    have HRd2:=hide hrd2
    have HBe2:=hide hbe2
    have HK02:=hide hk02
    have HK82:=hide hk82
    have hLx:∀ (n:Nat),n ≤ L.length → (L.length:Nat) ≤ 1048576:=fun _ _ => by omega
    clear hX2 hrd2 hbe2 hk02 hk82 HXk HFk HK1 HRd HBW HB2 HK0 HK8 hLx
    go_loopw [10] (fun at_ wq => ∃ (m:Nat) (xs:List Nat),at_ = .int .i64 m ∧ m ≤ a' ∧ xs.length ≤ L.length ∧ m + (xs.flatMap (codeB (lensL L))).length = a' ∧ Hid ((bitsL s N).drop m = xs.flatMap (codeB (lensL L)) ++ (bitsL s N).drop a') ∧ Hid (∀ x ∈ xs,∃ n:Nat,(lensL L)[x]? = some (n:Int) ∧ 1 ≤ n ∧ n ≤ 15) ∧ Hid (Bk wq w1.heap.size 53 #[.int .i64 z,.int .i64 (L.length - xs.length:Nat),.int .i64 c0,.int .i64 l0,.int .i64 T,.int .i64 C]) ∧ Hid (BookN wq lo p (lensL L) (some ⟨g1,0,none⟩) c1) ∧ Hid (Rd wq wq.heap.size (some ⟨g1,0,none⟩) ((lensL L).map (.int .i64))) ∧ Hid (Below w.heap.size w wq) ∧ Hid (Bk wq w.heap.size 27 #[.string s,.int .i64 N]) ∧ Hid (Bk wq (w.heap.size + 1) 53 #[.int .i64 0,.int .i64 0,.int .i64 0,.int .i64 0,.int .i64 0,.int .i64 0])) (fun at_ _ => a' - (intOf at_).toNat)
    case atStart => exact ⟨a + T,L,by go_num,by omega,Nat.le_refl _,by rw [← HCode.out];exact hend,HBits,HSym,hide (by rw [Nat.sub_self];exact HX2.out),HBk,HRd2,HBe2,HK02,HK82⟩
    case round =>
     clear HX2 HRd2 HBe2 HK02 HK82 HBits HSym HBk
     obtain ⟨m,xs,rfl,hm,hxl,hsum,hbt,hsy,hX,hBN,hRd,hBe,hK0,hK8⟩:=hrel
     obtain ⟨b0,b1⟩:=two_cells hK0.out
     obtain ⟨⟨x0,x1,x2,x3,x4,x5⟩,⟨y0,y1,y2,y3,y4,y5⟩⟩:=six_cells hX.out
     cases xs with
     | nil =>
       have hme:m = a':=by simpa using hsum
       subst hme
       rw [List.length_nil,Nat.sub_zero] at hX x1
       obtain ⟨⟨u0,u1,u2,u3,u4,u5⟩,⟨v0,v1,v2,v3,v4,v5⟩⟩:=six_cells hK8.out
       clear hsum
       go_wp2_with fail
       obtain ⟨⟨t0,t1,t2,t3,t4,t5⟩,_⟩:=six_cells ((((((hK8.out.set_ 0 (.int .i64 z)).set_ 1 (.int .i64 (L.length:Nat))).set_ 2 (.int .i64 c0)).set_ 3 (.int .i64 l0)).set_ 4 (.int .i64 T)).set_ 5 (.int .i64 C))
       refine bodyPost_ret (v:=.agg #[.int .i64 z,.int .i64 (L.length:Nat),.int .i64 c0,.int .i64 l0,.int .i64 T,.int .i64 C]) (by simp [results,Tryz.results98,go_sem,t0,t1,t2,t3,t4,t5]) rfl ?_
       exact ⟨by rw [HC0.out,HL0.out],((((((hBe.out.setCell (p:=⟨w.heap.size + 1,0,none⟩) (by show w.heap.size ≤ w.heap.size + 1;omega) _).setCell (p:=⟨w.heap.size + 1,1,none⟩) (by show w.heap.size ≤ w.heap.size + 1;omega) _).setCell (p:=⟨w.heap.size + 1,2,none⟩) (by show w.heap.size ≤ w.heap.size + 1;omega) _).setCell (p:=⟨w.heap.size + 1,3,none⟩) (by show w.heap.size ≤ w.heap.size + 1;omega) _).setCell (p:=⟨w.heap.size + 1,4,none⟩) (by show w.heap.size ≤ w.heap.size + 1;omega) _).setCell (p:=⟨w.heap.size + 1,5,none⟩) (by show w.heap.size ≤ w.heap.size + 1;omega) _)⟩
     | cons x xs =>
       obtain ⟨n,hn1,hn2,hn3⟩:=hsy.out x (by simp)
       have hb:=hbt.out
       rw [List.flatMap_cons,List.append_assoc] at hb
       obtain ⟨e1',e2',e3'⟩:=next_there HOk.out hn1 hn2 hn3 hb
       have hcl:=codeB_length hn1
       rw [List.flatMap_cons,List.length_append,hcl] at hsum
       have hlt2:(m:Int) < (a':Int):=by omega
       have nx:=next_any wr.heap.size p (lensL L) (some ⟨g1,0,none⟩) c1 s N m wr (hBN.out.book hRd.out) (Nat.le_refl _) (by rw [HLenL.out];decide) hN hs (by omega)
       unfold NextP at nx
       rw [e1'] at nx
       have hsy2:∀ y ∈ xs,∃ n:Nat,(lensL L)[y]? = some (n:Int) ∧ 1 ≤ n ∧ n ≤ 15:=fun y hy => hsy.out y (List.mem_cons_of_mem _ hy)
       have HNx:=hide nx
       have HSy2:=hide hsy2
       have HB2:=hide e2'
       have hxl2:xs.length + 1 ≤ L.length:=by simpa using hxl
       obtain ⟨j,hj⟩:∃ j,j = L.length - (xs.length + 1):=⟨_,rfl⟩
       rw [List.length_cons,← hj] at hX x1
       have hjb:j ≤ 1048576:=by omega
       have HJ:=hide hj
       clear hb e1' e2' hcl hn1 nx hsy2 hbt hsy hj hxl
       go_wp2_with (go_at_call 130;refine (Calls.mono HNx.out ?_);rintro e w5 ⟨rfl,hb5⟩;have hX5:=hX.out.keep hb5;clear x0 x1 x2 x3 x4 x5 y0 y1 y2 y3 y4 y5;obtain ⟨⟨x0,x1,x2,x3,x4,x5⟩,⟨y0,y1,y2,y3,y4,y5⟩⟩:=six_cells hX5;have HX5:=hide hX5;have HB5:=hide hb5;clear hX5 hb5)
       go_roundw
       case rel =>
        have hz5:=HB5.out.size
        have hf5:=Fr.below HB5.out (fun g => g = w1.heap.size)
        have hf6:=hf5.setCell (p:=⟨w1.heap.size,1,none⟩) (.inl rfl) (.int .i64 ((j:Int) + 1))
        have hlo:∀ g,lo ≤ g → g < wr.heap.size → ¬ g = w1.heap.size:=fun g hg _ => by omega
        refine ⟨m + n,xs,by go_num,by omega,by omega,by omega,HB2,HSy2,hide ?_,hide (hBN.out.fr hf6 hlo),hide (hRd.out.frA (S:=fun g => g = w1.heap.size) hf6 (fun a ha _ => by cases ha;exact hg1X)),hide ((hBe.out.trans (HB5.out.mono hBe.out.size)).setCell (p:=⟨w1.heap.size,1,none⟩) (by show w.heap.size ≤ w1.heap.size;omega) _),hide ((hK0.out.keep HB5.out).far (p:=⟨w1.heap.size,1,none⟩) (by show w.heap.size ≠ w1.heap.size;omega) _),hide ((hK8.out.keep HB5.out).far (p:=⟨w1.heap.size,1,none⟩) (by show w.heap.size + 1 ≠ w1.heap.size;omega) _)⟩
        have hjj:L.length - xs.length = j + 1:=by have:=HJ.out;omega
        rw [hjj]
        exact HX5.out.set_ 1 (.int .i64 ((j:Int) + 1))
       case measure => simp [intOf];omega
def SU (b:Nat) (w:World) (k:Nat):Prop:=k = b ∨ ∃ cs,Bk w k 5 cs
theorem SU.own {b base n:Nat} {w:World} {v:Value} {xs:List Value} (h:w.ownsRow base 5 1 v n xs):∀ g,v.ownBlock = some g → SU b w g:=fun g hg => by
 rcases h.2 with ⟨rfl,_⟩ | ⟨g',cap,cur,rfl,_,hh,_⟩
 · simp [Value.ownBlock] at hg
 · obtain rfl:g' = g:=by simpa [Value.ownBlock] using hg
   exact .inr ⟨cur,hh⟩
theorem FrU.trans {b:Nat} {a w w':World} {T:Nat → Prop} (h:Fr (SU b a) a w) (k:Fr T w w') (hT:∀ g,T g → SU b w g ∨ a.heap.size ≤ g):Fr (SU b a) a w' :=
 h.trans k (fun g hg => by
  rcases Nat.lt_or_ge g a.heap.size with hlt | hge
  · by_cases hs:SU b a g
    · exact .inl hs
    · rcases hT g hg with (rfl | ⟨cs,hc⟩) | h2
      · exact absurd (.inl rfl) hs
      · exact absurd (.inr ⟨cs,(h.block g hlt hs).symm.trans hc⟩) hs
      · omega
  · exact .inr hge)
theorem FrU.more {b:Nat} {a w w':World} (h:Fr (SU b a) a w) (k:Fr (SU b w) w w'):Fr (SU b a) a w':=FrU.trans h k (fun _ hg => .inl hg)
theorem Bk.fru {b g:Nat} {t:TypeId} {cs:Array Value} {w w':World} (h:Bk w g t cs) (hf:Fr (SU b w) w w') (hb:g ≠ b) (ht:t ≠ 5):Bk w' g t cs :=
 h.fr hf (fun hs => by
  rcases hs with rfl | ⟨cs',h'⟩
  · exact hb rfl
  · exact Bk.ne_ h h' ht rfl)
set_option maxHeartbeats 1000000 in
theorem bwByteF (b c:Nat) (l:List Nat) (w:World) (h:Bd w b l) (hl:l.length ≤ 1000000000) :
 Calls Tryz.prog 99 #[.pointer (some ⟨b,0,none⟩),.int .u8 c] w fun e w' => e = .returned .nilIface ∧ Bd w' b (l ++ [c]) ∧ Below b w w' ∧ Fr (SU b w) w w':=by
 have ck:=check_builder b l w h
 have HC:=hide ck
 clear ck
 obtain ⟨i0,hi,hz0,hz1,hz2⟩:=info_parts info_u8
 go_enter Tryz.func99,Tryz.ntmps99
 go_wp2_with (first
  | (go_at_call 93;refine (Calls.mono HC.out ?_);rintro e w1 ⟨rfl,hb1,hf1⟩;obtain ⟨p,v,hB,hp,ho⟩:=hb1;obtain ⟨c0,c1⟩:=two_cells hB;have HB:=hide hB;have HO:=hide ho;have HF:=hide hf1;have f1:=hB.free 1;have hblt:=hB.lt;clear hB ho hf1)
  | (at_builtin;refine wpList_append_own _ rfl (.tmp 11) (.tmp 13) 38 rfl (b + 1) 5 i0 (.int .u8 0) 1 1 Tryz.underlying38 hi hz0 hz1 hz2 rfl (by decide) _ _ _ rfl (HO.out.alloc _) ⟨w1.heap.size,0,none⟩ 1 1 [.int .u8 c] rfl rfl (cell_one_new _ _ _) (by intro u hu;simp at hu;subst hu;rfl) (by unfold maxLen;omega) (by omega) (by simp;omega) ?_;intro v3 w3 hown3 hgr3 _
     have hB3:=(HB.out.alloc (.cells #[.int .u8 (c:Nat)] 5)).grown hgr3 (fun he => by have:=(HO.out.lt b he.symm).1;omega)
     have hf3:Below b w w3:=((HF.out.toBelowB (fun g hg => by subst hg;exact Nat.le_refl _) (by have:=HF.out.size;have:=h.lt;omega)).alloc (by omega) (.cells #[.int .u8 (c:Nat)] 5)).grown hgr3 (by simp;omega) (fun g hg => by have:=(HO.out.lt g hg).1;omega)
     have hg3:Fr (SU b w) w w3:=FrU.trans (FrU.trans (FrU.trans (Fr.refl (SU b w) w) HF.out (fun g hg => .inl (.inl hg))) ((Fr.refl (fun _ => False) w1).alloc (.cells #[.int .u8 (c:Nat)] 5)) (fun g hg => hg.elim)) (Fr.grown (S:=SU b (w1.alloc (.cells #[.int .u8 (c:Nat)] 5))) hgr3 (SU.own (HO.out.alloc _))) (fun g hg => .inl hg)
     obtain ⟨A3,c3,rfl⟩:=own_form3 hown3
     obtain ⟨d0,d1⟩:=two_cells hB3
     have g1:=hB3.free 1
     have HB3:=hide hB3
     have HO3:=hide hown3
     have HG3:=hide hg3
     clear hB3 hown3 hgr3 hg3))
 go_ret
 refine ⟨rfl,⟨p,_,HB3.out.set_ 1 _,hp, ?_⟩,hf3.setCell (p:=⟨b,1,none⟩) (Nat.le_refl _) _,HG3.out.setCell (p:=⟨b,1,none⟩) (.inl (.inl rfl)) _⟩
 have:=own_set HO3.out (p:=⟨b,1,none⟩) (fun e => by have:=(HO3.out.lt b e).1;omega) (.slice A3 (l.length + 1) c3)
 rw [show vby (l ++ [c]) = vby l ++ [.int .u8 (c:Nat)] from by unfold vby;rw [List.map_append];rfl,List.length_append]
 exact this
set_option maxHeartbeats 1000000 in
theorem bwStringF (b:Nat) (l:List Nat) (s:ByteArray) (w:World) (h:Bd w b l) (hl:l.length + s.size ≤ 1000000000) :
 Calls Tryz.prog 51 #[.pointer (some ⟨b,0,none⟩),.string s] w fun e w' => (∃ k:Int,e = .returned (.tuple #[.int .i64 k,.nilIface])) ∧ Bd w' b (l ++ strL s) ∧ Below b w w' ∧ Fr (SU b w) w w':=by
 have ck:=check_builder b l w h
 have HC:=hide ck
 clear ck
 obtain ⟨i0,hi,hz0,hz1,hz2⟩:=info_parts info_u8
 go_enter Tryz.func51,Tryz.ntmps51
 go_wp2_with (first
  | (go_at_call 93;refine (Calls.mono HC.out ?_);rintro e w1 ⟨rfl,hb1,hf1⟩;obtain ⟨p,v,hB,hp,ho⟩:=hb1;obtain ⟨c0,c1⟩:=two_cells hB;have HB:=hide hB;have HO:=hide ho;have HF:=hide hf1;have f1:=hB.free 1;have hblt:=hB.lt;clear hB ho hf1)
  | (at_builtin;refine Lib.wpList_append_own_string _ rfl (.tmp 12) (.tmp 13) 38 9 rfl (b + 1) 5 i0 Tryz.underlying38 Tryz.underlying9 hi hz0 hz1 hz2 _ _ _ rfl HO.out s rfl (by unfold maxLen;omega) (by omega) (by omega) ?_;intro v3 w3 hown3 hgr3 _
     have hB3:=HB.out.grown hgr3 (fun he => by have:=(HO.out.lt b he.symm).1;omega)
     have hf3:Below b w w3:=(HF.out.toBelowB (fun g hg => by subst hg;exact Nat.le_refl _) (by have:=HF.out.size;have:=h.lt;omega)).grown hgr3 (by omega) (fun g hg => by have:=(HO.out.lt g hg).1;omega)
     have hg3:Fr (SU b w) w w3:=FrU.trans (FrU.trans (Fr.refl (SU b w) w) HF.out (fun g hg => .inl (.inl hg))) (Fr.grown (S:=SU b w1) hgr3 (SU.own HO.out)) (fun g hg => .inl hg)
     obtain ⟨A3,c3,rfl⟩:=own_form3 hown3
     obtain ⟨d0,d1⟩:=two_cells hB3
     have g1:=hB3.free 1
     have HB3:=hide hB3
     have HO3:=hide hown3
     have HG3:=hide hg3
     clear hB3 hown3 hgr3 hg3))
 go_ret2
 refine ⟨⟨_,rfl⟩,⟨p,_,HB3.out.set_ 1 _,hp, ?_⟩,hf3.setCell (p:=⟨b,1,none⟩) (Nat.le_refl _) _,HG3.out.setCell (p:=⟨b,1,none⟩) (.inl (.inl rfl)) _⟩
 have:=own_set HO3.out (p:=⟨b,1,none⟩) (fun e => by have:=(HO3.out.lt b e).1;omega) (.slice A3 (l.length + s.size) c3)
 rw [show vby (l ++ strL s) = vby l ++ vby (strL s) from by unfold vby;rw [List.map_append],List.length_append,strL_length,← strCells_vby]
 exact this
end Go.Proofs.YtcfnjpokfodmoaaGreatDoor
