/- Lemmas for the row: AudSame. -/
import Derived.Test.YtcfnjpokfodmoaaGreatDoorM41
import Derived.Laws.StructEq
set_option maxRecDepth 100000
set_option linter.unusedVariables false
namespace Go.Proofs.YtcfnjpokfodmoaaGreatDoor
open Go.RowKit
theorem same_take {la lb:List (List Nat)} {k:Nat} {x y:List Nat} (h:la.take k = lb.take k) (hx:la[k]? = some x) (hy:lb[k]? = some y) (e:x = y):la.take (k + 1) = lb.take (k + 1):=by
 rw [List.take_add_one,List.take_add_one,hx,hy,h,e]
theorem guard_stat:Tryz.prog.eqGuardType Tryz.prog.depth 53 = false:=by kernel_rfl
theorem neq_stat (x0 x1 x2 x3 x4 x5 y0 y1 y2 y3 y4 y5:Nat) (w:World):(binOp .neq 53 (.agg #[.int .i64 x0,.int .i64 x1,.int .i64 x2,.int .i64 x3,.int .i64 x4,.int .i64 x5]) (.agg #[.int .i64 y0,.int .i64 y1,.int .i64 y2,.int .i64 y3,.int .i64 y4,.int .i64 y5])).run Tryz.prog w = .ok (.bool (decide ([x0,x1,x2,x3,x4,x5] ≠ [y0,y1,y2,y3,y4,y5]))) w:=by
 have hS:Tryz.prog.underlying 53 = some (.struct (Tryz.prog.fieldsOf 53)):=by kernel_rfl
 have hp:Tryz.prog.stoodInHeld 53 = false:=by kernel_rfl
 rw [run_neq_struct,show (10000:Nat) = 9999 + 1 from rfl,run_equalIn_agg w 9999 53 _ _ hS hp]
 simp only [Program.fieldsOf,Tryz.underlying53]
 go_simp
 by_cases h0:x0 = y0 <;> by_cases h1:x1 = y1 <;> by_cases h2:x2 = y2 <;> by_cases h3:x3 = y3 <;> by_cases h4:x4 = y4 <;> by_cases h5:x5 = y5 <;> simp [h0,h1,h2,h3,h4,h5] <;> omega
set_option maxHeartbeats 4000000 in
theorem same31_any (A B:Option Addr) (c d:Nat) (la lb:List (List Nat)) (w:World) (ha:Rd w w.heap.size A (flat6 la)) (hb:Rd w w.heap.size B (flat6 lb)) (h6:∀ l ∈ la,l.length = 6) (g6:∀ l ∈ lb,l.length = 6) (hl:la.length ≤ 100000000) :
 Calls Tryz.prog 25 #[.slice A la.length c,.slice B lb.length d] w fun e w' => e = .returned (.bool (decide (la = lb))) ∧ ∃ n,w' = w.drewN n:=by
 by_cases hlen:la.length = lb.length
 · have HA:=hide ha
   have HB:=hide hb
   have H6:=hide h6
   have G6:=hide g6
   have hI:((la.length:Int) != (lb.length:Int)) = false:=by simp;omega
   have HL:=hide hlen
   clear ha hb h6 g6 hlen
   go_enter Tryz.func25,Tryz.ntmps25
   go_wp2_with fail
   go_loopw [13] (fun i wr => ∃ (k n:Nat),i = .int .i64 k ∧ k ≤ la.length ∧ wr = w.drewN n ∧ Hid (la.take k = lb.take k)) (fun i _ => la.length - (intOf i).toNat)
   case atStart => exact ⟨0,0,rfl,by omega,(World.drewN_zero _).symm,hide rfl⟩
   case round =>
    obtain ⟨k,n,rfl,hk,rfl,heq⟩:=hrel
    by_cases hlt:k < la.length
    · obtain ⟨x,hx⟩:∃ x,la[k]? = some x:=⟨la[k],by simp [hlt]⟩
      obtain ⟨y,hy⟩:∃ y,lb[k]? = some y:=⟨lb[k]'(by have:=HL.out;omega),by simp⟩
      have hst:=same_take heq.out hx hy
      have hxy:x ≠ y → ¬ la = lb:=fun hne e => hne (by rw [e,hy] at hx;exact (Option.some.inj hx).symm)
      obtain ⟨x0,x1,x2,x3,x4,x5,rfl⟩:=six_of (H6.out x (List.mem_of_getElem? hx))
      obtain ⟨y0,y1,y2,y3,y4,y5,rfl⟩:=six_of (G6.out y (List.mem_of_getElem? hy))
      have gx:=fun (i:Nat) (hi:i < 6) => flat6_get H6.out hx hi
      have gy:=fun (i:Nat) (hi:i < 6) => flat6_get G6.out hy hi
      obtain ⟨ba,oa,hA,_,_⟩:=HA.out (6 * k + 0) _ (gx 0 (by omega))
      obtain ⟨bb,ob,hB,_,_⟩:=HB.out (6 * k + 0) _ (gy 0 (by omega))
      subst hA hB
      have cx:=fun (i:Nat) (hi:i < 6) => show w.cell? ⟨ba,oa + (6 * k + i),none⟩ = some (.int .i64 ([x0,x1,x2,x3,x4,x5].getD i 0:Nat)) from by
       obtain ⟨b2,o2,hA2,_,hc⟩:=HA.out (6 * k + i) _ (gx i hi)
       simp only [Option.some.injEq,Addr.mk.injEq,and_true] at hA2
       obtain ⟨rfl,rfl⟩:=hA2
       exact hc
      have cy:=fun (i:Nat) (hi:i < 6) => show w.cell? ⟨bb,ob + (6 * k + i),none⟩ = some (.int .i64 ([y0,y1,y2,y3,y4,y5].getD i 0:Nat)) from by
       obtain ⟨b2,o2,hA2,_,hc⟩:=HB.out (6 * k + i) _ (gy i hi)
       simp only [Option.some.injEq,Addr.mk.injEq,and_true] at hA2
       obtain ⟨rfl,rfl⟩:=hA2
       exact hc
      have u0:w.cell? ⟨ba,oa + k * 6,none⟩ = some (.int .i64 (x0:Nat)):=by have:=cx 0 (by omega);rwa [show oa + (6 * k + 0) = oa + k * 6 by omega] at this
      have u1:w.cell? ⟨ba,oa + k * 6 + 1,none⟩ = some (.int .i64 (x1:Nat)):=by have:=cx 1 (by omega);rwa [show oa + (6 * k + 1) = oa + k * 6 + 1 by omega] at this
      have u2:w.cell? ⟨ba,oa + k * 6 + 2,none⟩ = some (.int .i64 (x2:Nat)):=by have:=cx 2 (by omega);rwa [show oa + (6 * k + 2) = oa + k * 6 + 2 by omega] at this
      have u3:w.cell? ⟨ba,oa + k * 6 + 3,none⟩ = some (.int .i64 (x3:Nat)):=by have:=cx 3 (by omega);rwa [show oa + (6 * k + 3) = oa + k * 6 + 3 by omega] at this
      have u4:w.cell? ⟨ba,oa + k * 6 + 4,none⟩ = some (.int .i64 (x4:Nat)):=by have:=cx 4 (by omega);rwa [show oa + (6 * k + 4) = oa + k * 6 + 4 by omega] at this
      have u5:w.cell? ⟨ba,oa + k * 6 + 5,none⟩ = some (.int .i64 (x5:Nat)):=by have:=cx 5 (by omega);rwa [show oa + (6 * k + 5) = oa + k * 6 + 5 by omega] at this
      have v0:w.cell? ⟨bb,ob + k * 6,none⟩ = some (.int .i64 (y0:Nat)):=by have:=cy 0 (by omega);rwa [show ob + (6 * k + 0) = ob + k * 6 by omega] at this
      have v1:w.cell? ⟨bb,ob + k * 6 + 1,none⟩ = some (.int .i64 (y1:Nat)):=by have:=cy 1 (by omega);rwa [show ob + (6 * k + 1) = ob + k * 6 + 1 by omega] at this
      have v2:w.cell? ⟨bb,ob + k * 6 + 2,none⟩ = some (.int .i64 (y2:Nat)):=by have:=cy 2 (by omega);rwa [show ob + (6 * k + 2) = ob + k * 6 + 2 by omega] at this
      have v3:w.cell? ⟨bb,ob + k * 6 + 3,none⟩ = some (.int .i64 (y3:Nat)):=by have:=cy 3 (by omega);rwa [show ob + (6 * k + 3) = ob + k * 6 + 3 by omega] at this
      have v4:w.cell? ⟨bb,ob + k * 6 + 4,none⟩ = some (.int .i64 (y4:Nat)):=by have:=cy 4 (by omega);rwa [show ob + (6 * k + 4) = ob + k * 6 + 4 by omega] at this
      have v5:w.cell? ⟨bb,ob + k * 6 + 5,none⟩ = some (.int .i64 (y5:Nat)):=by have:=cy 5 (by omega);rwa [show ob + (6 * k + 5) = ob + k * 6 + 5 by omega] at this
      have hne:=fun (W:World) => neq_stat x0 x1 x2 x3 x4 x5 y0 y1 y2 y3 y4 y5 W
      have hgd:=guard_stat
      obtain ⟨b,hb⟩:∃ b,b = decide ([x0,x1,x2,x3,x4,x5] ≠ [y0,y1,y2,y3,y4,y5]):=⟨_,rfl⟩
      rw [← hb] at hne
      have HBd:=hide hb
      have HSt:=hide hst
      have HXy:=hide hxy
      have hlb:k < lb.length:=by have:=HL.out;omega
      clear cx cy gx gy hx hy hst hxy hb
      cases b with
      | false =>
        have heqx:[x0,x1,x2,x3,x4,x5] = [y0,y1,y2,y3,y4,y5]:=by
         have:=HBd.out
         simpa using this
        have HSt2:=hide (HSt.out heqx)
        clear heqx
        go_wp2_with fail
        go_quiet (fail)
        go_wp2_with fail
        go_roundw
        case rel => exact ⟨k + 1,_,by go_num,by omega,rfl,HSt2⟩
        case measure => simp [intOf];omega
      | true =>
        have hnex:[x0,x1,x2,x3,x4,x5] ≠ [y0,y1,y2,y3,y4,y5]:=of_decide_eq_true HBd.out.symm
        have HNe:=hide (HXy.out hnex)
        clear hnex
        go_wp2_with fail
        go_quiet (fail)
        go_wp2_with fail
        go_ret
        exact ⟨(by rw [decide_eq_false HNe.out];rfl),dr2 _ _ _⟩
    · have hke:k = la.length:=by omega
      have heq2:la = lb:=by
       have:=heq.out
       rw [hke,List.take_length,HL.out,List.take_length] at this
       exact this
      have HEq:=hide heq2
      clear heq2 hke
      go_wp2_with fail
      go_ret
      exact ⟨(by rw [decide_eq_true HEq.out];rfl),_,rfl⟩
 · have hI:((la.length:Int) != (lb.length:Int)) = true:=by simp;omega
   have hne:¬ la = lb:=fun e => hlen (by rw [e])
   have HNe:=hide hne
   clear hne ha hb
   go_enter Tryz.func25,Tryz.ntmps25
   go_wp2_with fail
   go_ret
   exact ⟨(by rw [decide_eq_false HNe.out];rfl),0,(World.drewN_zero _).symm⟩
end Go.Proofs.YtcfnjpokfodmoaaGreatDoor
