/- Lemmas for the row: OrdC, OrdD. -/
import Derived.Test.YtcfnjpokfodmoaaGreatDoorM27
import Derived.StillTailTactics
set_option maxRecDepth 100000
set_option linter.unusedVariables false
namespace Go.Proofs.YtcfnjpokfodmoaaGreatDoor
open Go.RowKit
set_option maxHeartbeats 1000000 in
theorem isNaNI (x:Int) (w:World):Calls Tryz.prog 163 #[.int .i64 x] w fun e w' => e = .returned (.bool false) ∧ w' = w:=by
 go_enter Tryz.func163,Tryz.ntmps163
 go_wp2
 go_ret
 exact ⟨by simp,rfl⟩
set_option maxHeartbeats 1000000 in
theorem compareI (x y:Nat) (w:World):Calls Tryz.prog 122 #[.int .i64 x,.int .i64 y] w fun e w' => e = .returned (.int .i64 (cmpN x y)) ∧ w' = w:=by
 obtain ⟨z,hz⟩:∃ z,z = cmpN x y:=⟨_,rfl⟩
 have h1:x < y → z = -1:=fun h => by rw [hz];unfold cmpN;rw [if_pos h]
 have h2:¬ x < y → y < x → z = 1:=fun h h' => by rw [hz];unfold cmpN;rw [if_neg h,if_pos h']
 have h3:¬ x < y → ¬ y < x → z = 0:=fun h h' => by rw [hz];unfold cmpN;rw [if_neg h,if_neg h']
 have H:=hide (And.intro h1 (And.intro h2 h3))
 rw [← hz]
 clear h1 h2 h3 hz
 go_enter Tryz.func122,Tryz.ntmps122
 rcases Nat.lt_trichotomy x y with g | g | g
 · have e:=H.out.1 g
   subst e
   go_wp2_with (go_at_call 163;refine (isNaNI _ _).mono ?_;rintro e w' ⟨rfl,rfl⟩)
   go_ret
   exact ⟨rfl,rfl⟩
 · subst g
   have e:=H.out.2.2 (Nat.lt_irrefl _) (Nat.lt_irrefl _)
   subst e
   go_wp2_with (go_at_call 163;refine (isNaNI _ _).mono ?_;rintro e w' ⟨rfl,rfl⟩)
   go_ret
   exact ⟨rfl,rfl⟩
 · have e:=H.out.2.1 (by omega) g
   subst e
   have g2:¬ x < y:=by omega
   go_wp2_with (go_at_call 163;refine (isNaNI _ _).mono ?_;rintro e w' ⟨rfl,rfl⟩)
   go_ret
   exact ⟨rfl,rfl⟩
set_option maxHeartbeats 1000000 in
theorem or2 (g:Nat) (u v:Int) (w:World) (h0:w.cell? ⟨g,0,none⟩ = some (.int .i64 u)) (h1:w.cell? ⟨g,1,none⟩ = some (.int .i64 v)):Calls Tryz.prog 121 #[.slice (some ⟨g,0,none⟩) 2 2] w fun e w' => e = .returned (.int .i64 (if u = 0 then v else u)) ∧ w' = w:=by
 by_cases hu:u = 0
 · rw [if_pos hu]
   subst hu
   by_cases hv:v = 0
   · subst hv
     go_enter Tryz.func121,Tryz.ntmps121
     go_wp2_with fail
     refine wp_loop_rounds 3 ?_
     rw [rounds_succ];go_wp2
     rw [rounds_succ];go_wp2
     rw [rounds_succ];go_wp2
     go_ret
     exact ⟨rfl,rfl⟩
   · go_enter Tryz.func121,Tryz.ntmps121
     go_wp2_with fail
     refine wp_loop_rounds 2 ?_
     rw [rounds_succ];go_wp2
     rw [rounds_succ];go_wp2
     go_ret
     exact ⟨rfl,rfl⟩
 · rw [if_neg hu]
   go_enter Tryz.func121,Tryz.ntmps121
   go_wp2_with fail
   refine wp_loop_rounds 1 ?_
   rw [rounds_succ];go_wp2
   go_ret
   exact ⟨rfl,rfl⟩
structure CapD (w:World) (gR gK b n c:Nat) (rank:List Nat) (k:Nat):Prop where
 r:w.cell? ⟨gR,0,none⟩ = some (.slice (some ⟨b,0,none⟩) n c)
 k:w.cell? ⟨gK,0,none⟩ = some (.int .i64 k)
 rows:∀ i,i < n → w.cell? ⟨b,i,none⟩ = some (.int .i64 (rank.getD i 0:Nat))
set_option maxHeartbeats 1000000 in
theorem behind_any (gR gK b n c:Nat) (rank:List Nat) (k i:Nat) (w:World) (h:CapD w gR gK b n c rank k) (hn:rank.length = n) (hl:n ≤ 1000000) (hk:k ≤ 1000000000) (hi:i ≤ 1000000) (hr:∀ a,a < n → rank.getD a 0 < n) :
 Calls Tryz.prog 119 #[.int .i64 i,.pointer (some ⟨gK,0,none⟩),.pointer (some ⟨gR,0,none⟩)] w fun e w' => e = .returned (.int .i64 (behindL rank k i:Nat)) ∧ w' = w:=by
 have HK:=hide hn
 have hcr:=h.r
 have hck:=h.k
 by_cases g:i + k < n
 · have e:behindL rank k i = rank.getD (i + k) 0 + 1:=by unfold behindL;rw [if_pos (by omega)]
   have hc:=h.rows (i + k) g
   have hb:=hr (i + k) g
   obtain ⟨y,hy⟩:∃ y,y = rank.getD (i + k) 0:=⟨_,rfl⟩
   rw [← hy] at hc hb e
   rw [e]
   clear h e hy hr hn
   go_enter Tryz.func119,Tryz.ntmps119
   go_wp2_with fail
   go_ret
   exact ⟨rfl,rfl⟩
 · have e:behindL rank k i = 0:=by unfold behindL;rw [if_neg (by omega)]
   rw [e]
   clear h e hr hn
   go_enter Tryz.func119,Tryz.ntmps119
   go_wp2_with fail
   go_ret
   exact ⟨rfl,rfl⟩
open Go.RowKit Go.Sort
set_option maxHeartbeats 2000000 in
theorem lessD_any (gR gK gB b n c:Nat) (rank:List Nat) (k x y:Nat) (w:World) (h:CapD w gR gK b n c rank k) (hB:w.cell? ⟨gB,0,none⟩ = some (.func (.func 119) #[] #[.pointer (some ⟨gK,0,none⟩),.pointer (some ⟨gR,0,none⟩)])) (hn:rank.length = n) (hl:n ≤ 1000000) (hk:k ≤ 1000000000) (hx:x < n) (hy:y < n) (hr:∀ a,a < n → rank.getD a 0 < n) :
 Calls Tryz.prog 120 #[.int .i64 x,.int .i64 y,.pointer (some ⟨gR,0,none⟩),.pointer (some ⟨gB,0,none⟩)] w fun e w' => e = .returned (.int .i64 (cmpD rank k x y)) ∧ ∃ q os',w' = grow (w.drewN q) os':=by
 have hcr:=h.r
 have hcx:=h.rows x hx
 have hcy:=h.rows y hy
 have HCX:=hide (compareI (rank.getD x 0) (rank.getD y 0) w.drew)
 have HBX:=hide (behind_any gR gK b n c rank k x w.drew ⟨h.r,h.k,h.rows⟩ hn hl hk (by omega) hr)
 have HBY:=hide (behind_any gR gK b n c rank k y w.drew ⟨h.r,h.k,h.rows⟩ hn hl hk (by omega) hr)
 have HCY:=hide (compareI (behindL rank k x) (behindL rank k y) w.drew)
 have eg:∀ args w,(callFunc 119 args).run Tryz.prog w = .ok (.enter 119 args) w:=enters_of Tryz.func119 (by kernel_rfl) rfl
 have hD:cmpD rank k x y = if cmpN (rank.getD x 0) (rank.getD y 0) = 0 then cmpN (behindL rank k x) (behindL rank k y) else cmpN (rank.getD x 0) (rank.getD y 0):=rfl
 rw [hD]
 clear hD h hr
 generalize rank.getD x 0 = rx at *
 generalize rank.getD y 0 = ry at *
 generalize behindL rank k x = bx at *
 generalize behindL rank k y = y2 at *
 generalize cmpN rx ry = c1 at *
 generalize cmpN bx y2 = c2 at *
 go_enter Tryz.func120,Tryz.ntmps120
 go_wp2_with fail
 refine wp_region_still_tail 16 (by kernel_rfl) (by kernel_rfl) ?_
 simp only [List.take_succ_cons,List.take_zero,List.drop_succ_cons,List.drop_zero]
 change wpStill _ _ w.drew _ _ _
 repeat still_step
 still_call HCX.out
 repeat still_step
 still_call HBX.out
 repeat still_step
 still_call HBY.out
 repeat still_step
 still_call HCY.out
 refine wpStill_nil ?_
 change wpList _ _ _ _ _ w.drew
 obtain ⟨w2,hw2⟩:∃ x,x = w.drew:=⟨_,rfl⟩
 rw [← hw2]
 have HW2:=hide hw2
 clear hw2
 go_wp2_with (go_at_call 121;refine (or2 w2.heap.size c1 c2 _ (by rw [(Bk.new w2 _ _).cell];rfl) (by rw [(Bk.new w2 _ _).cell];rfl)).mono ?_;rintro e w' ⟨rfl,rfl⟩)
 all_goals go_ret
 all_goals exact ⟨rfl,1,_,by rw [HW2.out];exact alloc_eq_grow _ _⟩
end Go.Proofs.YtcfnjpokfodmoaaGreatDoor
