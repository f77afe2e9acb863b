/- Lemmas for the row: TablePlain, TabA, TabB, TabE, TabF, TabG, TabH, TabC2, EndsPlain, DoublePlain, EndsBack, RepPlain. -/
import Derived.Test.YtcfnjpokfodmoaaGreatDoorM01
set_option maxRecDepth 100000
set_option linter.unusedVariables false
namespace Go.Proofs.YtcfnjpokfodmoaaGreatDoor
open Go.RowKit
def stepsT (up:Bool):Nat → List Bool
 | 0 => []
 | d + 1 => true :: (!up) :: stepsT up d
def moveT (now l:Nat):List Bool:=(if now < l then stepsT true (l - now) else stepsT false (now - l)) ++ [false]
def tabT (now:Nat):List Nat → List Bool
 | [] => []
 | l :: ls => moveT now l ++ tabT l ls
def tableL (ls:List Nat):List Bool:=natBits (ls.headD 0) 4 ++ tabT (ls.headD 0) ls
def nextT:List Bool → Nat → Int → Int × Nat × List Bool
 | [],_,_ => (5,0,[])
 | false :: r,now,_ => (0,now,r)
 | [true],_,_ => (5,0,[])
 | true :: true :: r,now,way => if now = 0 ∨ way = 1 then (7,0,[]) else nextT r (now - 1) (-1)
 | true :: false :: r,now,way => if now = 15 ∨ way = -1 then (7,0,[]) else nextT r (now + 1) 1
def lensT:Nat → Bool → List Bool → Nat → Int × List Nat × List Bool
 | 0,_,r,_ => (0,[],r)
 | n + 1,first,r,now =>
   if (nextT r now 0).1 = 0 then
    if first = true ∧ (nextT r now 0).2.1 ≠ now then (7,[],[])
    else if (lensT n false (nextT r now 0).2.2 (nextT r now 0).2.1).1 = 0 then (0,(nextT r now 0).2.1 :: (lensT n false (nextT r now 0).2.2 (nextT r now 0).2.1).2.1,(lensT n false (nextT r now 0).2.2 (nextT r now 0).2.1).2.2)
    else ((lensT n false (nextT r now 0).2.2 (nextT r now 0).2.1).1,[],[])
   else ((nextT r now 0).1,[],[])
theorem moveT_up {now l:Nat} (h:now < l):moveT now l = true :: false :: moveT (now + 1) l:=by
 unfold moveT
 rw [if_pos h]
 obtain ⟨d,hd⟩:∃ d,l - now = d + 1:=⟨l - now - 1,by omega⟩
 rw [hd,stepsT]
 by_cases g:now + 1 < l
 · rw [if_pos g,show l - (now + 1) = d by omega];rfl
 · rw [if_neg g,show d = 0 by omega,show now + 1 - l = 0 by omega];rfl
theorem moveT_down {now l:Nat} (h:l < now):moveT now l = true :: true :: moveT (now - 1) l:=by
 unfold moveT
 rw [if_neg (by omega)]
 obtain ⟨d,hd⟩:∃ d,now - l = d + 1:=⟨now - l - 1,by omega⟩
 rw [hd,stepsT,if_neg (by omega),show now - 1 - l = d by omega];rfl
theorem moveT_same (now:Nat):moveT now now = [false]:=by
 unfold moveT;rw [if_neg (by omega),Nat.sub_self];rfl
theorem nextT_move {l:Nat} (hl:l ≤ 15):∀ (d now:Nat) (way:Int) (r:List Bool),now ≤ 15 → d = (l - now) + (now - l) → (now < l → way ≠ -1) → (l < now → way ≠ 1) → nextT (moveT now l ++ r) now way = (0,l,r):=by
 intro d
 induction d with
 | zero =>
   intro now way r hn hd _ _
   obtain rfl:now = l:=by omega
   rw [moveT_same];rfl
 | succ d ih =>
   intro now way r hn hd h1 h2
   rcases Nat.lt_or_ge now l with g | g
   · have:=h1 g
     rw [moveT_up g,List.cons_append,List.cons_append,nextT,if_neg (by omega)]
     exact ih (now + 1) 1 r (by omega) (by omega) (fun _ => by decide) (fun _ => by omega)
   · have g':l < now:=by omega
     have:=h2 g'
     rw [moveT_down g',List.cons_append,List.cons_append,nextT,if_neg (by omega)]
     exact ih (now - 1) (-1) r (by omega) (by omega) (fun _ => by omega) (fun _ => by decide)
theorem lensT_tab:∀ (ls:List Nat) (first:Bool) (now:Nat) (r:List Bool),(∀ x ∈ ls,x ≤ 15) → now ≤ 15 → (first = true → ∀ x,ls.head? = some x → x = now) → lensT ls.length first (tabT now ls ++ r) now = (0,ls,r):=by
 intro ls
 induction ls with
 | nil => intro first now r _ _ _;rfl
 | cons l ls ih =>
   intro first now r h hn hf
   have hl:=h l (by simp)
   have e:nextT (tabT now (l :: ls) ++ r) now 0 = (0,l,tabT l ls ++ r):=by
    rw [tabT,List.append_assoc]
    exact nextT_move hl _ now 0 _ hn rfl (fun _ => by decide) (fun _ => by decide)
   rw [List.length_cons,lensT,e]
   have i:=ih false l r (fun x hx => h x (List.mem_cons_of_mem _ hx)) hl (fun hh => by cases hh)
   simp only [i,if_true]
   rw [if_neg]
   rintro ⟨a,b⟩
   exact b (hf a l rfl)
theorem nextT_bits:∀ (n:Nat) (r:List Bool) (now:Nat) (way:Int) (l:Nat) (r':List Bool),r.length ≤ n → now ≤ 15 → nextT r now way = (0,l,r') → l ≤ 15 ∧ (way = 1 → now ≤ l) ∧ (way = -1 → l ≤ now) ∧ r = moveT now l ++ r':=by
 intro n
 induction n with
 | zero =>
   intro r now way l r' hr _ h
   obtain rfl:r = []:=List.eq_nil_of_length_eq_zero (by omega)
   rw [nextT] at h;cases h
 | succ n ih =>
   intro r now way l r' hr hn h
   match r,hr,h with
   | [],_,h => rw [nextT] at h;cases h
   | false :: r,_,h =>
     rw [nextT] at h
     simp only [Prod.mk.injEq,true_and] at h
     obtain ⟨rfl,rfl⟩:=h
     exact ⟨hn,fun _ => Nat.le_refl _,fun _ => Nat.le_refl _,by rw [moveT_same];rfl⟩
   | [true],_,h => rw [nextT] at h;cases h
   | true :: true :: r,hr,h =>
     rw [nextT] at h
     split at h
     · cases h
     · rename_i g
       obtain ⟨a,b,c,d⟩:=ih r (now - 1) (-1) l r' (by simp at hr;omega) (by omega) h
       have:=c rfl
       refine ⟨a,fun e => absurd (.inr e) g,fun _ => by omega, ?_⟩
       rw [moveT_down (by omega),d];rfl
   | true :: false :: r,hr,h =>
     rw [nextT] at h
     split at h
     · cases h
     · rename_i g
       obtain ⟨a,b,c,d⟩:=ih r (now + 1) 1 l r' (by simp at hr;omega) (by omega) h
       have:=b rfl
       refine ⟨a,fun _ => by omega,fun e => absurd (.inr e) g, ?_⟩
       rw [moveT_up (by omega),d];rfl
theorem lensT_bits:∀ (n:Nat) (first:Bool) (r:List Bool) (now:Nat) (ls:List Nat) (r':List Bool),now ≤ 15 → lensT n first r now = (0,ls,r') → ls.length = n ∧ (∀ x ∈ ls,x ≤ 15) ∧ (first = true → ∀ x,ls.head? = some x → x = now) ∧ r = tabT now ls ++ r':=by
 intro n
 induction n with
 | zero =>
   intro first r now ls r' _ h
   rw [lensT] at h
   simp only [Prod.mk.injEq,true_and] at h
   obtain ⟨rfl,rfl⟩:=h
   exact ⟨rfl,by simp,by simp,rfl⟩
 | succ n ih =>
   intro first r now ls r' hn h
   rw [lensT] at h
   obtain ⟨⟨k,l,r1⟩,hx⟩:∃ x,nextT r now 0 = x:=⟨_,rfl⟩
   rw [hx] at h
   simp only at h
   split at h
   · rename_i hk
     subst hk
     obtain ⟨a,_,_,d⟩:=nextT_bits r.length r now 0 l r1 (Nat.le_refl _) hn hx
     split at h
     · cases h
     · rename_i hf
       obtain ⟨⟨k2,ls2,r2⟩,hy⟩:∃ y,lensT n false r1 l = y:=⟨_,rfl⟩
       rw [hy] at h
       simp only at h
       split at h
       · rename_i hk2
         subst hk2
         simp only [Prod.mk.injEq,true_and] at h
         obtain ⟨rfl,rfl⟩:=h
         obtain ⟨a2,b2,_,d2⟩:=ih false r1 l ls2 r2 a hy
         refine ⟨by simp [a2], ?_, ?_, ?_⟩
         · intro x hx'
           rcases List.mem_cons.1 hx' with rfl | h'
           · exact a
           · exact b2 x h'
         · intro hft x hx'
           simp at hx'
           subst hx'
           rcases Decidable.em (l = now) with e | e
           · exact e
           · exact absurd ⟨hft,e⟩ hf
         · rw [d,d2,tabT,List.append_assoc]
       · rename_i hk2
         simp only [Prod.mk.injEq] at h
         exact absurd h.1 hk2
   · rename_i hk
     simp only [Prod.mk.injEq] at h
     exact absurd h.1 hk
def tabW (ls:List Int):Int:=if ls.length = 0 then 7 else okW ls
def tabBits (ls:List Int):List Bool:=tableL (ls.map Int.toNat)
theorem moveT_length (now l:Nat):(moveT now l).length = 1 + 2 * ((l - now) + (now - l)):=by
 have key:∀ (u:Bool) (d:Nat),(stepsT u d).length = 2 * d:=by
  intro u d
  induction d with
  | zero => rfl
  | succ d ih => rw [stepsT,List.length_cons,List.length_cons,ih];omega
 unfold moveT
 by_cases h:now < l
 · rw [if_pos h,List.length_append,key];simp;omega
 · rw [if_neg h,List.length_append,key];simp;omega
theorem tabT_length_le:∀ (ls:List Nat) (now:Nat),now ≤ 15 → (∀ x ∈ ls,x ≤ 15) → (tabT now ls).length ≤ 31 * ls.length:=by
 intro ls
 induction ls with
 | nil => intro _ _ _;simp [tabT]
 | cons l ls ih =>
   intro now hn h
   have hl:=h l (by simp)
   have:=ih l hl (fun x hx => h x (List.mem_cons_of_mem _ hx))
   rw [tabT,List.length_append,moveT_length,List.length_cons]
   omega
theorem okL_nat {ls:List Int} (h:okL ls = true):ls.length ≤ 512 ∧ ∀ x ∈ ls,0 ≤ x ∧ x ≤ 15:=by
 unfold okL at h
 simp only [Bool.and_eq_true,decide_eq_true_eq] at h
 have h:=h.1
 unfold roomW at h
 split at h
 · cases h
 · rename_i g
   split at h
   · cases h
   · rename_i g2
     refine ⟨by omega,fun x hx => ?_⟩
     have:¬ badL 15 x = true:=fun hb => g2 (List.any_eq_true.2 ⟨x,hx,hb⟩)
     unfold badL at this
     simp only [Bool.or_eq_true,decide_eq_true_eq,not_or] at this
     omega
theorem tabW_zero {ls:List Int} (h:tabW ls = 0):okL ls = true ∧ ls.length ≠ 0:=by
 unfold tabW at h
 split at h
 · cases h
 · rename_i g
   unfold okW at h
   split at h
   · rename_i k;exact ⟨k,g⟩
   · cases h
theorem tabBits_length_le {ls:List Int} (h:okL ls = true):(tabBits ls).length ≤ 20000:=by
 obtain ⟨h1,h2⟩:=okL_nat h
 have h3:∀ x ∈ ls.map Int.toNat,x ≤ 15:=fun x hx => by
  obtain ⟨y,hy,rfl⟩:=List.mem_map.1 hx
  have:=h2 y hy;omega
 have h4:(ls.map Int.toNat).headD 0 ≤ 15:=by
  cases hl:ls.map Int.toNat with
  | nil => simp
  | cons x l => rw [hl] at h3;exact h3 x (by simp)
 have:=tabT_length_le _ _ h4 h3
 unfold tabBits tableL
 rw [List.length_append,natBits_length]
 rw [List.length_map] at this
 omega
theorem dropN {ls:List Int} {k:Nat} {x:Int} (h:ls[k]? = some x):(ls.map Int.toNat).drop k = x.toNat :: (ls.map Int.toNat).drop (k + 1):=by
 rw [← List.map_drop,← List.map_drop]
 have hk:=(List.getElem?_eq_some_iff.1 h)
 obtain ⟨hk,rfl⟩:=hk
 rw [List.drop_eq_getElem_cons hk];rfl
def Rdr (w:World) (p:Nat) (s:ByteArray) (N a:Nat):Prop:=Bk w p 195 #[.string s,.int .i64 N,.int .i64 a]
def Sents (w:World) (e0 e1:Value):Prop:=w.cell? ⟨1,0,none⟩ = some e0 ∧ w.cell? ⟨2,0,none⟩ = some e1
def TakeP (p:Nat) (s:ByteArray) (N a k:Nat) (e0:Value) (w:World) (e:Ending) (w':World):Prop :=
 (N < a + k ∧ e = .returned (.tuple #[.int .i64 0,e0]) ∧ ∃ j,w' = w.drewN j) ∨
 (a + k ≤ N ∧ e = .returned (.tuple #[.int .i64 (getN s a k:Nat),.nilIface]) ∧ Rdr w' p s N (a + k) ∧ Fr (fun g => g = p) w w')
set_option maxHeartbeats 2000000 in
theorem take_any (p:Nat) (s:ByteArray) (N a k:Nat) (e0 e1:Value) (w:World) (hr:Rdr w p s N a) (hS:Sents w e0 e1) (hN:N ≤ 1048576) (hs:s.size = (N + 7) / 8) (ha:a ≤ N) (hk:k ≤ 4) :
 Calls Tryz.prog 176 #[.pointer (some ⟨p,0,none⟩),.int .i64 k] w (TakeP p s N a k e0 w):=by
 obtain ⟨g0,g1⟩:=hS
 have c0:=hr.cell 0
 have c1:=hr.cell 1
 have c2:=hr.cell 2
 have f2:=hr.free 2
 simp at c0 c1 c2
 have HR:=hide hr
 have HS:=hide hs
 clear hr hs
 by_cases g:N < a + k
 · have gd:decide ((N:Int) - (a:Int) < (k:Int)) = true:=decide_eq_true (by omega)
   go_enter Tryz.func176,Tryz.ntmps176
   go_wp2_with fail
   go_region
   go_wp2_with fail
   go_region
   go_wp2_with fail
   go_ret2
   exact .inl ⟨g,rfl,2,rfl⟩
 · have gd:decide ((N:Int) - (a:Int) < (k:Int)) = false:=decide_eq_false (by omega)
   have at_:∀ W,Calls Tryz.prog 180 #[bstr s N,.int .i64 a,.int .i64 k] W fun e w' => e = .returned (.int .u64 (getN s a k:Nat)) ∧ Below W.heap.size W w':=fun W => at_any s N a k W (by omega) (by have:=HS.out;omega) (by have:=HS.out;omega)
   obtain ⟨V,hV⟩:∃ V,V = getN s a k:=⟨_,rfl⟩
   have hVb:V < 16:=by
    have h1:=getN_lt s a k
    have h2:2 ^ k ≤ 2 ^ 4:=Nat.pow_le_pow_right (by omega) hk
    rw [hV];omega
   rw [← hV] at at_
   have HAt:=hide at_
   have HV:=hide hV
   clear at_ hV
   go_enter Tryz.func176,Tryz.ntmps176
   go_wp2_with fail
   go_region
   go_wp2_with fail
   go_region_with (go_at_call 180;refine (Calls.mono (HAt.out _) ?_);rintro e w1 ⟨rfl,hb1⟩;have hr1:Rdr w1 p s N a:=(HR.out.drewN 2).keep hb1)
   all_goals
    have d0:=hr1.cell 2
    have d1:=hr1.free 2
    simp at d0
    go_wp2_with fail
    go_ret2
    exact .inr ⟨by omega,by rw [← HV.out];rfl,hr1.set_ 2 (.int .i64 ((a + k:Nat):Int)),(Fr.below (hb1:Below (w.drewN 2).heap.size (w.drewN 2) w1) _ |> fun h => (⟨h.os,h.tape,h.output,h.size,h.block⟩:Fr (fun g => g = p) w w1)).setCell (.inl rfl) _⟩
theorem drop_bit (s:ByteArray) {N a:Nat} (h:a < N):(bitsL s N).drop a = bitAt s a :: (bitsL s N).drop (a + 1):=by
 rw [List.drop_eq_getElem_cons (by simpa using h)]
 congr 1
 have:=bitsL_get s h
 rw [List.getElem?_eq_getElem (by simpa using h)] at this
 simpa using this
theorem getN_one (s:ByteArray) (a:Nat):getN s a 1 = (bitAt s a).toNat:=by
 have h1:=natBits_getN s a 1
 have h2:=getN_lt s a 1
 have h3:=natBits_get (getN s a 1) 1 0 (by omega)
 rw [h1] at h3
 simp at h3
 have h4:getN s a 1 < 2:=h2
 rw [h3]
 rcases (show getN s a 1 = 0 ∨ getN s a 1 = 1 by omega) with e | e <;> rw [e] <;> rfl
theorem next_one {s:ByteArray} {N a now:Nat} {way:Int} (h:a < N) (hb:bitAt s a = false):nextT ((bitsL s N).drop a) now way = (0,now,(bitsL s N).drop (a + 1)):=by
 rw [drop_bit s h,hb,nextT]
theorem next_end {s:ByteArray} {N a now:Nat} {way:Int} (h:N ≤ a):nextT ((bitsL s N).drop a) now way = (5,0,[]):=by
 rw [List.drop_eq_nil_of_le (by simpa using h),nextT]
theorem next_half {s:ByteArray} {N a now:Nat} {way:Int} (h:a < N) (hb:bitAt s a = true) (h2:N ≤ a + 1):nextT ((bitsL s N).drop a) now way = (5,0,[]):=by
 rw [drop_bit s h,hb,List.drop_eq_nil_of_le (by simpa using h2),nextT]
theorem next_down {s:ByteArray} {N a now:Nat} {way:Int} (h:a + 1 < N) (hb:bitAt s a = true) (hb2:bitAt s (a + 1) = true):nextT ((bitsL s N).drop a) now way = if now = 0 ∨ way = 1 then (7,0,[]) else nextT ((bitsL s N).drop (a + 2)) (now - 1) (-1):=by
 rw [drop_bit s (show a < N by omega),hb,drop_bit s h,hb2,nextT]
theorem next_up {s:ByteArray} {N a now:Nat} {way:Int} (h:a + 1 < N) (hb:bitAt s a = true) (hb2:bitAt s (a + 1) = false):nextT ((bitsL s N).drop a) now way = if now = 15 ∨ way = -1 then (7,0,[]) else nextT ((bitsL s N).drop (a + 2)) (now + 1) 1:=by
 rw [drop_bit s (show a < N by omega),hb,drop_bit s h,hb2,nextT]
abbrev ers (q:Addr):Value:=.iface 346 (.pointer (some q))
theorem Sents.fr {w w':World} {e0 e1:Value} {S:Nat → Prop} (h:Sents w e0 e1) (hf:Fr S w w') (hS:∀ g,g < 3 → ¬ S g):Sents w' e0 e1 :=
 ⟨hf.cell (hS _ (by decide)) h.1,hf.cell (hS _ (by decide)) h.2⟩
theorem take_bit (p:Nat) (s:ByteArray) (N a:Nat) (e0 e1:Value) (w:World) (hr:Rdr w p s N a) (hS:Sents w e0 e1) (hN:N ≤ 1048576) (hs:s.size = (N + 7) / 8) (ha:a < N) {b:Int} (hb:((getN s a 1:Nat):Int) = b) :
 Calls Tryz.prog 176 #[.pointer (some ⟨p,0,none⟩),.int .i64 1] w fun e w' => e = .returned (.tuple #[.int .i64 b,.nilIface]) ∧ Rdr w' p s N (a + 1) ∧ Fr (fun g => g = p) w w':=by
 refine Calls.mono (take_any p s N a 1 e0 e1 w hr hS hN hs (by omega) (by decide)) ?_
 rintro e w' (⟨h,_⟩ | ⟨_,rfl,h,hf⟩)
 · omega
 · rw [hb];exact ⟨rfl,h,hf⟩
theorem take_no (p:Nat) (s:ByteArray) (N a k:Nat) (e0 e1:Value) (w:World) (hr:Rdr w p s N a) (hS:Sents w e0 e1) (hN:N ≤ 1048576) (hs:s.size = (N + 7) / 8) (ha:a ≤ N) (hk:k ≤ 4) (hno:N < a + k) :
 Calls Tryz.prog 176 #[.pointer (some ⟨p,0,none⟩),.int .i64 k] w fun e w' => e = .returned (.tuple #[.int .i64 0,e0]) ∧ ∃ j,w' = w.drewN j:=by
 refine Calls.mono (take_any p s N a k e0 e1 w hr hS hN hs ha hk) ?_
 rintro e w' (⟨_,rfl,h⟩ | ⟨h,_⟩)
 · exact ⟨rfl,h⟩
 · omega
def RNextP (p:Nat) (s:ByteArray) (N:Nat) (x:Int × Nat × List Bool) (e0 e1:Value) (w:World) (e:Ending) (w':World):Prop :=
 Fr (fun g => g = p) w w' ∧
 ((x.1 = 0 ∧ x.2.1 ≤ 15 ∧ ∃ a,a ≤ N ∧ x.2.2 = (bitsL s N).drop a ∧ e = .returned (.tuple #[.int .i64 (x.2.1:Nat),.nilIface]) ∧ Rdr w' p s N a) ∨
  (x.1 = 5 ∧ ∃ v:Int,e = .returned (.tuple #[.int .i64 v,e0])) ∨ (x.1 = 7 ∧ ∃ v:Int,e = .returned (.tuple #[.int .i64 v,e1])))
set_option maxHeartbeats 2000000 in
theorem tnext_any (p:Nat) (s:ByteArray) (N a0 now0:Nat) (q0 q1:Addr) (w:World) (hr:Rdr w p s N a0) (hS:Sents w (ers q0) (ers q1)) (hN:N ≤ 1048576) (hs:s.size = (N + 7) / 8) (ha:a0 ≤ N) (hn:now0 ≤ 15) (hp:3 ≤ p) :
 Calls Tryz.prog 177 #[.pointer (some ⟨p,0,none⟩),.int .i64 now0] w (RNextP p s N (nextT ((bitsL s N).drop a0) now0 0) (ers q0) (ers q1) w):=by
 obtain ⟨X,hX⟩:∃ X,X = nextT ((bitsL s N).drop a0) now0 0:=⟨_,rfl⟩
 rw [← hX]
 have HX:=hide hX
 have HR:=hide hr
 have HS:=hide hS
 have HSz:=hide hs
 clear hX hr hS hs
 go_enter Tryz.func177,Tryz.ntmps177
 go_wp2_with fail
 go_loopw [1,6] (fun nw way wr => ∃ (a now:Nat) (wy:Int),nw = .int .i64 now ∧ way = .int .i64 wy ∧ a ≤ N ∧ now ≤ 15 ∧ (wy = 0 ∨ wy = 1 ∨ wy = -1) ∧ Hid (Rdr wr p s N a) ∧ Hid (Sents wr (ers q0) (ers q1)) ∧ Hid (Fr (fun g => g = p) w wr) ∧ Hid (nextT ((bitsL s N).drop a) now wy = X)) (fun _ _ wr => N - (match wr.cell? ⟨p,2,none⟩ with | some (.int _ a) => a.toNat | _ => 0))
 case atStart => exact ⟨a0,now0,0,rfl,rfl,ha,hn,.inl rfl,HR,HS,hide (Fr.refl _ _),hide HX.out.symm⟩
 case round =>
  clear HR HS HX
  obtain ⟨a,now,wy,rfl,rfl,haN,hnow,hwy,HR,HS,HF,HX⟩:=hrel
  have hm:wr.cell? ⟨p,2,none⟩ = some (.int .i64 a):=by have:=HR.out.cell 2;simpa using this
  have HM:=hide hm
  clear hm
  by_cases g:a < N
  · have sents:∀ w1,Fr (fun g => g = p) wr w1 → Sents w1 (ers q0) (ers q1):=fun w1 h => HS.out.fr h (fun g h1 h2 => by omega)
    have HSn:=hide sents
    clear sents
    cases hb:bitAt s a with
    | false =>
      have T1:=take_bit p s N a (ers q0) (ers q1) wr HR.out HS.out hN HSz.out g (b:=0) (by rw [getN_one,hb];rfl)
      have HT1:=hide T1
      have hx:=HX.out
      rw [next_one g hb] at hx
      have HX2:=hide hx
      clear T1 hx hb
      go_wp2_with (go_at_call 176;refine (Calls.mono HT1.out ?_);rintro e w1 ⟨rfl,hr1,hf1⟩;have HR1:=hide hr1;have HF1:=hide hf1;clear hr1 hf1)
      go_ret2
      exact ⟨HF.out.trans HF1.out (fun _ h => .inl h),.inl (by rw [← HX2.out];exact ⟨rfl,hnow,a + 1,g,rfl,rfl,HR1.out⟩)⟩
    | true =>
      have T1:=take_bit p s N a (ers q0) (ers q1) wr HR.out HS.out hN HSz.out g (b:=1) (by rw [getN_one,hb];rfl)
      have HT1:=hide T1
      have HB:=hide hb
      clear T1 hb
      by_cases g2:a + 1 < N
      · cases hb2:bitAt s (a + 1) with
        | true =>
          have hx:=HX.out
          rw [next_down g2 HB.out hb2] at hx
          have T2:∀ w1,Rdr w1 p s N (a + 1) → Sents w1 (ers q0) (ers q1) → _:=fun w1 h1 h2 => take_bit p s N (a + 1) (ers q0) (ers q1) w1 h1 h2 hN HSz.out g2 (b:=1) (by rw [getN_one,hb2];rfl)
          have HT2:=hide T2
          have HX2:=hide hx
          clear T2 hx hb2
          by_cases gb:now = 0 ∨ wy = 1
          · have hx:=HX2.out
            rw [if_pos gb] at hx
            have HX3:=hide hx
            clear hx
            have fin:∀ (w2:World) (v:Int) (e:Ending),Fr (fun g => g = p) wr w2 → e = .returned (.tuple #[.int .i64 v,ers q1]) → RNextP p s N X (ers q0) (ers q1) w e w2:=fun w2 v e h he => ⟨HF.out.trans h (fun _ h => .inl h),.inr (.inr (by rw [← HX3.out];exact ⟨rfl,v,he⟩))⟩
            have HFin:=hide fin
            clear fin
            by_cases ge:now = 0
            · subst ge
              go_wp2_with (first | (go_at_call 176;refine (Calls.mono HT1.out ?_);rintro e w1 ⟨rfl,hr1,hf1⟩;have HR1:=hide hr1;have HF1:=hide hf1;have HS1:=hide (HSn.out _ hf1);clear hr1 hf1) | (go_at_call 176;refine (Calls.mono (HT2.out _ HR1.out HS1.out) ?_);rintro e w2 ⟨rfl,hr2,hf2⟩;have HR2:=hide hr2;have HF2:=hide (HF1.out.trans hf2 (fun _ h => .inl h));have HS2:=hide (HSn.out _ HF2.out);have hs2:w2.cell? ⟨2,0,none⟩ = some (ers q1):=HS2.out.2;clear hr2 hf2))
              go_region
              go_wp2_with fail
              go_ret2
              exact HFin.out _ _ _ (HF2.out.drewN _) rfl
            · obtain rfl:wy = 1:=gb.resolve_left ge
              have d0:decide ((now:Int) + - 1 < 0) = false:=decide_eq_false (by omega)
              have d1:decide ((15:Int) < (now:Int) + - 1) = false:=decide_eq_false (by omega)
              go_wp2_with (first | (go_at_call 176;refine (Calls.mono HT1.out ?_);rintro e w1 ⟨rfl,hr1,hf1⟩;have HR1:=hide hr1;have HF1:=hide hf1;have HS1:=hide (HSn.out _ hf1);clear hr1 hf1) | (go_at_call 176;refine (Calls.mono (HT2.out _ HR1.out HS1.out) ?_);rintro e w2 ⟨rfl,hr2,hf2⟩;have HR2:=hide hr2;have HF2:=hide (HF1.out.trans hf2 (fun _ h => .inl h));have HS2:=hide (HSn.out _ HF2.out);have hs2:w2.cell? ⟨2,0,none⟩ = some (ers q1):=HS2.out.2;clear hr2 hf2))
              go_region
              go_wp2_with fail
              go_ret2
              exact HFin.out _ _ _ (HF2.out.drewN _) rfl
          · have hx:=HX2.out
            rw [if_neg gb] at hx
            have HX3:=hide hx
            clear hx
            have d0:decide ((now:Int) + - 1 < 0) = false:=decide_eq_false (by omega)
            have d1:decide ((15:Int) < (now:Int) + - 1) = false:=decide_eq_false (by omega)
            have d2:decide (wy = 1) = false:=decide_eq_false (by omega)
            go_wp2_with (first | (go_at_call 176;refine (Calls.mono HT1.out ?_);rintro e w1 ⟨rfl,hr1,hf1⟩;have HR1:=hide hr1;have HF1:=hide hf1;have HS1:=hide (HSn.out _ hf1);clear hr1 hf1) | (go_at_call 176;refine (Calls.mono (HT2.out _ HR1.out HS1.out) ?_);rintro e w2 ⟨rfl,hr2,hf2⟩;have HR2:=hide hr2;have HF2:=hide (HF1.out.trans hf2 (fun _ h => .inl h));have HS2:=hide (HSn.out _ HF2.out);have hs2:w2.cell? ⟨2,0,none⟩ = some (ers q1):=HS2.out.2;clear hr2 hf2))
            go_roundw
            case rel => exact ⟨a + 2,now - 1,-1,v_int (by omega),rfl,g2,by omega,.inr (.inr rfl),HR2,HS2,hide (HF.out.trans HF2.out (fun _ h => .inl h)),HX3⟩
            case measure =>
             have m1:=HM.out
             have m2:w2.cell? ⟨p,2,none⟩ = some (.int .i64 ((a + 1 + 1:Nat):Int)):=by have:=HR2.out.cell 2;simpa using this
             rw [m1,m2];simp only [Int.toNat_natCast];omega
        | false =>
          have hx:=HX.out
          rw [next_up g2 HB.out hb2] at hx
          have T2:∀ w1,Rdr w1 p s N (a + 1) → Sents w1 (ers q0) (ers q1) → _:=fun w1 h1 h2 => take_bit p s N (a + 1) (ers q0) (ers q1) w1 h1 h2 hN HSz.out g2 (b:=0) (by rw [getN_one,hb2];rfl)
          have HT2:=hide T2
          have HX2:=hide hx
          clear T2 hx hb2
          by_cases gb:now = 15 ∨ wy = -1
          · have hx:=HX2.out
            rw [if_pos gb] at hx
            have HX3:=hide hx
            clear hx
            have fin:∀ (w2:World) (v:Int) (e:Ending),Fr (fun g => g = p) wr w2 → e = .returned (.tuple #[.int .i64 v,ers q1]) → RNextP p s N X (ers q0) (ers q1) w e w2:=fun w2 v e h he => ⟨HF.out.trans h (fun _ h => .inl h),.inr (.inr (by rw [← HX3.out];exact ⟨rfl,v,he⟩))⟩
            have HFin:=hide fin
            clear fin
            by_cases ge:now = 15
            · subst ge
              go_wp2_with (first | (go_at_call 176;refine (Calls.mono HT1.out ?_);rintro e w1 ⟨rfl,hr1,hf1⟩;have HR1:=hide hr1;have HF1:=hide hf1;have HS1:=hide (HSn.out _ hf1);clear hr1 hf1) | (go_at_call 176;refine (Calls.mono (HT2.out _ HR1.out HS1.out) ?_);rintro e w2 ⟨rfl,hr2,hf2⟩;have HR2:=hide hr2;have HF2:=hide (HF1.out.trans hf2 (fun _ h => .inl h));have HS2:=hide (HSn.out _ HF2.out);have hs2:w2.cell? ⟨2,0,none⟩ = some (ers q1):=HS2.out.2;clear hr2 hf2))
              go_region
              go_wp2_with fail
              go_ret2
              exact HFin.out _ _ _ (HF2.out.drewN _) rfl
            · obtain rfl:wy = -1:=gb.resolve_left ge
              have d0:decide ((now:Int) +  1 < 0) = false:=decide_eq_false (by omega)
              have d1:decide ((15:Int) < (now:Int) +  1) = false:=decide_eq_false (by omega)
              go_wp2_with (first | (go_at_call 176;refine (Calls.mono HT1.out ?_);rintro e w1 ⟨rfl,hr1,hf1⟩;have HR1:=hide hr1;have HF1:=hide hf1;have HS1:=hide (HSn.out _ hf1);clear hr1 hf1) | (go_at_call 176;refine (Calls.mono (HT2.out _ HR1.out HS1.out) ?_);rintro e w2 ⟨rfl,hr2,hf2⟩;have HR2:=hide hr2;have HF2:=hide (HF1.out.trans hf2 (fun _ h => .inl h));have HS2:=hide (HSn.out _ HF2.out);have hs2:w2.cell? ⟨2,0,none⟩ = some (ers q1):=HS2.out.2;clear hr2 hf2))
              go_region
              go_wp2_with fail
              go_ret2
              exact HFin.out _ _ _ (HF2.out.drewN _) rfl
          · have hx:=HX2.out
            rw [if_neg gb] at hx
            have HX3:=hide hx
            clear hx
            have d0:decide ((now:Int) +  1 < 0) = false:=decide_eq_false (by omega)
            have d1:decide ((15:Int) < (now:Int) +  1) = false:=decide_eq_false (by omega)
            have d2:decide (wy = -1) = false:=decide_eq_false (by omega)
            go_wp2_with (first | (go_at_call 176;refine (Calls.mono HT1.out ?_);rintro e w1 ⟨rfl,hr1,hf1⟩;have HR1:=hide hr1;have HF1:=hide hf1;have HS1:=hide (HSn.out _ hf1);clear hr1 hf1) | (go_at_call 176;refine (Calls.mono (HT2.out _ HR1.out HS1.out) ?_);rintro e w2 ⟨rfl,hr2,hf2⟩;have HR2:=hide hr2;have HF2:=hide (HF1.out.trans hf2 (fun _ h => .inl h));have HS2:=hide (HSn.out _ HF2.out);have hs2:w2.cell? ⟨2,0,none⟩ = some (ers q1):=HS2.out.2;clear hr2 hf2))
            go_roundw
            case rel => exact ⟨a + 2,now + 1,1,by go_num,rfl,g2,by omega,.inr (.inl rfl),HR2,HS2,hide (HF.out.trans HF2.out (fun _ h => .inl h)),HX3⟩
            case measure =>
             have m1:=HM.out
             have m2:w2.cell? ⟨p,2,none⟩ = some (.int .i64 ((a + 1 + 1:Nat):Int)):=by have:=HR2.out.cell 2;simpa using this
             rw [m1,m2];simp only [Int.toNat_natCast];omega
      · have hx:=HX.out
        rw [next_half g HB.out (by omega)] at hx
        have T2:∀ w1,Rdr w1 p s N (a + 1) → Sents w1 (ers q0) (ers q1) → _:=fun w1 h1 h2 => take_no p s N (a + 1) 1 (ers q0) (ers q1) w1 h1 h2 hN HSz.out (by omega) (by decide) (by omega)
        have HT2:=hide T2
        have HX2:=hide hx
        clear T2 hx
        go_wp2_with (first | (go_at_call 176;refine (Calls.mono HT1.out ?_);rintro e w1 ⟨rfl,hr1,hf1⟩;have HR1:=hide hr1;have HF1:=hide hf1;have HS1:=hide (HSn.out _ hf1);clear hr1 hf1) | (go_at_call 176;refine (Calls.mono (HT2.out _ HR1.out HS1.out) ?_);rintro e w2 ⟨rfl,j,rfl⟩))
        go_ret2
        exact ⟨HF.out.trans (HF1.out.drewN j) (fun _ h => .inl h),.inr (.inl (by rw [← HX2.out];exact ⟨rfl,_,rfl⟩))⟩
  · have T1:=take_no p s N a 1 (ers q0) (ers q1) wr HR.out HS.out hN HSz.out haN (by decide) (by omega)
    have HT1:=hide T1
    have hx:=HX.out
    rw [next_end (by omega)] at hx
    have HX2:=hide hx
    clear T1 hx
    go_wp2_with (go_at_call 176;refine (Calls.mono HT1.out ?_);rintro e w1 ⟨rfl,j,rfl⟩)
    go_ret2
    exact ⟨HF.out.drewN j,.inr (.inl (by rw [← HX2.out];exact ⟨rfl,_,rfl⟩))⟩
theorem nextT_kind:∀ (n:Nat) (r:List Bool) (now:Nat) (way:Int),r.length ≤ n → (nextT r now way).1 = 0 ∨ (nextT r now way).1 = 5 ∨ (nextT r now way).1 = 7:=by
 intro n
 induction n with
 | zero =>
   intro r now way h
   obtain rfl:r = []:=List.eq_nil_of_length_eq_zero (by omega)
   rw [nextT];exact .inr (.inl rfl)
 | succ n ih =>
   intro r now way h
   match r,h with
   | [],_ => rw [nextT];exact .inr (.inl rfl)
   | false :: r,_ => rw [nextT];exact .inl rfl
   | [true],_ => rw [nextT];exact .inr (.inl rfl)
   | true :: true :: r,h =>
     rw [nextT]
     split
     · exact .inr (.inr rfl)
     · exact ih _ _ _ (by simp at h;omega)
   | true :: false :: r,h =>
     rw [nextT]
     split
     · exact .inr (.inr rfl)
     · exact ih _ _ _ (by simp at h;omega)
def restT (done:List Nat) (y:Int × List Nat × List Bool):Int × List Nat × List Bool:=if y.1 = 0 then (0,done ++ y.2.1,y.2.2) else (y.1,[],[])
theorem restT_nil {n:Nat} {f:Bool} {r:List Bool} {now:Nat}:restT [] (lensT n f r now) = lensT n f r now:=by
 unfold restT
 split
 · rename_i h
   rw [List.nil_append,← h]
 · rename_i h
   cases n with
   | zero => rw [lensT] at h;exact absurd rfl h
   | succ n =>
     rw [lensT] at h ⊢
     split
     · rename_i g
       rw [if_pos g] at h
       split
       · rfl
       · rename_i g2
         rw [if_neg g2] at h
         split
         · rename_i g3
           rw [if_pos g3] at h;exact absurd rfl h
         · rfl
     · rfl
theorem restT_stop {n:Nat} {f:Bool} {r:List Bool} {now:Nat} {k:Int} {done:List Nat} (h:(nextT r now 0).1 = k) (hk:k ≠ 0):restT done (lensT (n + 1) f r now) = (k,[],[]):=by
 rw [lensT,if_neg (by rw [h];exact hk)]
 unfold restT
 rw [if_neg (by rw [h];exact hk),h]
theorem restT_first {n:Nat} {r:List Bool} {now:Nat} {done:List Nat} (h:(nextT r now 0).1 = 0) (hl:(nextT r now 0).2.1 ≠ now):restT done (lensT (n + 1) true r now) = (7,[],[]):=by
 rw [lensT,if_pos h,if_pos ⟨rfl,hl⟩]
 rfl
theorem restT_on {n:Nat} {f:Bool} {r:List Bool} {now:Nat} {done:List Nat} (h:(nextT r now 0).1 = 0) (hl:f = true → (nextT r now 0).2.1 = now) :
 restT done (lensT (n + 1) f r now) = restT (done ++ [(nextT r now 0).2.1]) (lensT n false (nextT r now 0).2.2 (nextT r now 0).2.1):=by
 rw [lensT,if_pos h,if_neg (by rintro ⟨a,b⟩;exact b (hl a))]
 unfold restT
 split
 · rename_i g
   simp
 · rename_i g
   rfl
def readT (s:ByteArray) (N a n:Nat):Int × List Nat × List Bool :=
 if N < a + 4 then (5,[],[])
 else if (lensT n true ((bitsL s N).drop (a + 4)) (getN s a 4)).1 = 0 then
  (if okL ((lensT n true ((bitsL s N).drop (a + 4)) (getN s a 4)).2.1.map Int.ofNat) then lensT n true ((bitsL s N).drop (a + 4)) (getN s a 4) else (7,[],[]))
 else lensT n true ((bitsL s N).drop (a + 4)) (getN s a 4)
def RLensP (p:Nat) (s:ByteArray) (N n:Nat) (x:Int × List Nat × List Bool) (e0 e1:Value) (w:World) (e:Ending) (w':World):Prop :=
 Fr (fun g => g = p) w w' ∧
 ((x.1 = 0 ∧ ∃ (a c g:Nat),a ≤ N ∧ x.2.2 = (bitsL s N).drop a ∧ e = .returned (.tuple #[.slice (some ⟨g,0,none⟩) n c,.nilIface]) ∧ w.heap.size ≤ g ∧ Bk w' g 3 ((x.2.1.map fun (l:Nat) => Value.int .i64 l)).toArray ∧ Rdr w' p s N a) ∨
  (x.1 = 5 ∧ ∃ v:Value,e = .returned (.tuple #[v,e0])) ∨ (x.1 = 7 ∧ ∃ v:Value,e = .returned (.tuple #[v,e1])))
theorem tnext_l (p:Nat) (s:ByteArray) (N a now:Nat) (q0 q1:Addr) (w:World) (hr:Rdr w p s N a) (hS:Sents w (ers q0) (ers q1)) (hN:N ≤ 1048576) (hs:s.size = (N + 7) / 8) (ha:a ≤ N) (hn:now ≤ 15) (hp:3 ≤ p) {l:Nat} {r:List Bool} (h:nextT ((bitsL s N).drop a) now 0 = (0,l,r)) :
 Calls Tryz.prog 177 #[.pointer (some ⟨p,0,none⟩),.int .i64 now] w fun e w' => e = .returned (.tuple #[.int .i64 l,.nilIface]) ∧ Fr (fun g => g = p) w w' ∧ l ≤ 15 ∧ ∃ a,a ≤ N ∧ r = (bitsL s N).drop a ∧ Rdr w' p s N a:=by
 refine Calls.mono (tnext_any p s N a now q0 q1 w hr hS hN hs ha hn hp) ?_
 rintro e w' ⟨hf,⟨_,hl,a',ha',hd,rfl,hr'⟩ | ⟨h5,_⟩ | ⟨h7,_⟩⟩
 · rw [h] at hl hd ⊢;exact ⟨rfl,hf,hl,a',ha',hd,hr'⟩
 · rw [h] at h5;cases h5
 · rw [h] at h7;cases h7
theorem tnext_0 (p:Nat) (s:ByteArray) (N a now:Nat) (q0 q1:Addr) (w:World) (hr:Rdr w p s N a) (hS:Sents w (ers q0) (ers q1)) (hN:N ≤ 1048576) (hs:s.size = (N + 7) / 8) (ha:a ≤ N) (hn:now ≤ 15) (hp:3 ≤ p) (h:(nextT ((bitsL s N).drop a) now 0).1 = 5) :
 Calls Tryz.prog 177 #[.pointer (some ⟨p,0,none⟩),.int .i64 now] w fun e w' => (∃ v:Int,e = .returned (.tuple #[.int .i64 v,ers q0])) ∧ Fr (fun g => g = p) w w':=by
 refine Calls.mono (tnext_any p s N a now q0 q1 w hr hS hN hs ha hn hp) ?_
 rintro e w' ⟨hf,⟨h0,_⟩ | ⟨_,he⟩ | ⟨h7,_⟩⟩
 · rw [h] at h0;cases h0
 · exact ⟨he,hf⟩
 · rw [h] at h7;cases h7
theorem tnext_1 (p:Nat) (s:ByteArray) (N a now:Nat) (q0 q1:Addr) (w:World) (hr:Rdr w p s N a) (hS:Sents w (ers q0) (ers q1)) (hN:N ≤ 1048576) (hs:s.size = (N + 7) / 8) (ha:a ≤ N) (hn:now ≤ 15) (hp:3 ≤ p) (h:(nextT ((bitsL s N).drop a) now 0).1 = 7) :
 Calls Tryz.prog 177 #[.pointer (some ⟨p,0,none⟩),.int .i64 now] w fun e w' => (∃ v:Int,e = .returned (.tuple #[.int .i64 v,ers q1])) ∧ Fr (fun g => g = p) w w':=by
 refine Calls.mono (tnext_any p s N a now q0 q1 w hr hS hN hs ha hn hp) ?_
 rintro e w' ⟨hf,⟨h0,_⟩ | ⟨h5,_⟩ | ⟨_,he⟩⟩
 · rw [h] at h0;cases h0
 · rw [h] at h5;cases h5
 · exact ⟨he,hf⟩
theorem take_yes (p:Nat) (s:ByteArray) (N a k:Nat) (e0 e1:Value) (w:World) (hr:Rdr w p s N a) (hS:Sents w e0 e1) (hN:N ≤ 1048576) (hs:s.size = (N + 7) / 8) (ha:a + k ≤ N) (hk:k ≤ 4) :
 Calls Tryz.prog 176 #[.pointer (some ⟨p,0,none⟩),.int .i64 k] w fun e w' => e = .returned (.tuple #[.int .i64 (getN s a k:Nat),.nilIface]) ∧ Rdr w' p s N (a + k) ∧ Fr (fun g => g = p) w w':=by
 refine Calls.mono (take_any p s N a k e0 e1 w hr hS hN hs (by omega) hk) ?_
 rintro e w' (⟨h,_⟩ | ⟨_,rfl,h,hf⟩)
 · omega
 · exact ⟨rfl,h,hf⟩
def lensC (done:List Nat) (n:Nat):Array Value:=((done ++ List.replicate (n - done.length) 0).map fun (l:Nat) => Value.int .i64 l).toArray
theorem lensC_nil (n:Nat):lensC [] n = madeCells #[.int .i64 0] n:=by
 unfold lensC
 apply Array.ext
 · simp [size_madeCells]
 · intro i h1 h2;simp [madeCells,Nat.mod_one]
theorem lensC_get {done:List Nat} {n:Nat} (h:done.length < n):(lensC done n)[done.length]? = some (.int .i64 0):=by
 unfold lensC
 rw [List.getElem?_toArray,List.map_append,List.getElem?_append_right (by simp)]
 simp only [List.map_replicate,List.length_map,Nat.sub_self,List.getElem?_replicate]
 rw [if_pos (by omega)];rfl
theorem lensC_set {done:List Nat} {n l:Nat} (h:done.length < n):(lensC done n).setIfInBounds done.length (.int .i64 l) = lensC (done ++ [l]) n:=by
 unfold lensC
 obtain ⟨m,rfl⟩:∃ m,n = done.length + (m + 1):=⟨n - done.length - 1,by omega⟩
 rw [List.setIfInBounds_toArray]
 congr 1
 rw [show done.length + (m + 1) - done.length = m + 1 by omega,List.replicate_succ,List.map_append,List.set_append_right _ _ (by simp)]
 simp [show done.length + (m + 1) - (done.length + 1) = m by omega]
theorem lensC_full {done:List Nat} {n:Nat} (h:done.length = n):lensC done n = ((done.map fun (l:Nat) => Value.int .i64 l)).toArray:=by
 unfold lensC
 rw [h,Nat.sub_self];simp
theorem tcanon (g n c:Nat) (out:List Nat) (w:World) (h:Bk w g 3 ((out.map fun (l:Nat) => Value.int .i64 l)).toArray) (hn:out.length = n) (hlen:n ≤ 512) :
 Calls Tryz.prog 178 #[.slice (some ⟨g,0,none⟩) n c] w fun e w' => e = .returned (.int .i64 (okW (out.map Int.ofNat))) ∧ w' = w:=by
 have hr:Rd w w.heap.size (some ⟨g,0,none⟩) ((out.map Int.ofNat).map (.int .i64)):=by
  intro i u hu
  refine ⟨g,0,rfl,h.lt, ?_⟩
  rw [Nat.zero_add,h.cell i,List.getElem?_toArray,← hu,List.map_map]
  rfl
 have:=canonCheck_any (some ⟨g,0,none⟩) (out.map Int.ofNat) c w hr (by simp;omega)
 rwa [List.length_map,hn] at this
def TAdd2P (p:Nat) (row:Option Nat) (l0:List Bool) (ls:List Int) (w:World) (e:Ending) (w':World):Prop:=e = .returned (.tuple #[]) ∧ ∃ row',Wr w' p row' (l0 ++ tabBits ls) ∧ rowNew w row row' ∧ Fr (wS p row) w w'
theorem rowNew.trans {w wr:World} {row r1 r2:Option Nat} (h:rowNew w row r1) (k:rowNew wr r1 r2) (hw:w.heap.size ≤ wr.heap.size):rowNew w row r2:=by
 rcases k with rfl | ⟨g,rfl,hg⟩
 · exact h
 · exact .inr ⟨g,rfl,by omega⟩
theorem frNew {w wr w':World} {p:Nat} {row r1:Option Nat} (h:Fr (wS p row) w wr) (hr:rowNew w row r1) (k:Fr (wS p r1) wr w'):Fr (wS p row) w w' :=
 h.trans k fun g hg => by
  rcases hg with rfl | hg
  · exact .inl (.inl rfl)
  · rcases hr with rfl | ⟨g',rfl,hg'⟩
    · exact .inl (.inr hg)
    · cases hg;exact .inr hg'
set_option maxHeartbeats 4000000 in
theorem tadd2_any (p:Nat) (row:Option Nat) (l0:List Bool) (A:Option Addr) (ls:List Int) (c:Nat) (w:World) (hW:Wr w p row l0) (h:Rd w w.heap.size A (ls.map (.int .i64))) (hA0:∀ a,A = some a → a.block ≠ p ∧ row ≠ some a.block) (hok:okL ls = true) (hne:ls.length ≠ 0) (hl0:l0.length ≤ 1048576) :
 Calls Tryz.prog 102 #[.pointer (some ⟨p,0,none⟩),.slice A ls.length c] w (TAdd2P p row l0 ls w):=by
 have H:=hide h
 obtain ⟨h512,hr⟩:=okL_nat hok
 have HRg:=hide hr
 have hT:=tabBits_length_le hok
 obtain ⟨b0,o0,x0,hA,hb0,hx0,hc0⟩:=h.int (show 0 < ls.length by omega)
 subst hA
 obtain ⟨u0,u1⟩:=hr x0 (List.mem_of_getElem? hx0)
 obtain ⟨x0,rfl⟩:=Int.eq_ofNat_of_zero_le u0
 have hbits:tabBits ls = natBits x0 4 ++ tabT x0 (ls.map Int.toNat):=by
  have:=dropN hx0
  rw [List.drop_zero] at this
  have e:(ls.map Int.toNat).headD 0 = x0:=by rw [this];rfl
  unfold tabBits tableL
  rw [e]
 obtain ⟨F,hF⟩:∃ F,F = l0 ++ tabBits ls:=⟨_,rfl⟩
 have hFl:F.length ≤ 1100000:=by rw [hF,List.length_append];omega
 have HFe:=hide hF
 have HBits:=hide hbits
 have hc0':w.cell? ⟨b0,o0,none⟩ = some (.int .i64 x0):=hc0
 have ad:=add_i p row l0 x0 4 w (by omega) (by decide) (by omega) (by decide) hW (by simp;omega)
 have HAd:=hide ad
 clear h hok hr hT hx0 hc0 hbits hF ad hW
 go_enter Tryz.func102,Tryz.ntmps102
 go_wp2_with (go_at_call 103;refine (Calls.mono HAd.out ?_);rintro e w1 ⟨rfl,row1,hwr1,hrn1,hfr1⟩)
 have hb0w:=hb0
 have hne0:=hA0 _ rfl
 have HN0:=hide hne0
 have hrow1:=hrn1
 have hbe1:=hfr1
 clear hne0 hA0
 rw [Int.toNat_natCast,show (4:Int).toNat = 4 from rfl] at hwr1
 have HWr1:=hide hwr1
 clear hwr1 hrn1 hfr1
 go_loopw [4,16] (fun nw i wr => ∃ (k M:Nat) (rw:Option Nat) (l:List Bool),k ≤ ls.length ∧ i = .int .i64 k ∧ nw = .int .i64 M ∧ M ≤ 15 ∧ Hid (Wr wr p rw l) ∧ rowNew w row rw ∧ Hid (l ++ tabT M ((ls.map Int.toNat).drop k) = F) ∧ Fr (wS p row) w wr) (fun _ i _ => ls.length - (intOf i).toNat)
 case atStart => exact ⟨0,x0,row1,_,by omega,rfl,rfl,by omega,HWr1,hrow1,hide (by rw [List.drop_zero,HFe.out,HBits.out,List.append_assoc]),hbe1⟩
 case round =>
  clear HWr1 hrow1
  obtain ⟨k,M,rw1,l,hk,rfl,rfl,hM,hwr,hrw,hsum,hbe⟩:=hrel
  by_cases hlt:k < ls.length
  · obtain ⟨b,o,x,hAb,hbb,hx,hcx⟩:=H.out.int hlt
    simp only [Option.some.injEq,Addr.mk.injEq,and_true] at hAb
    obtain ⟨rfl,rfl⟩:=hAb
    obtain ⟨v0,v1⟩:=HRg.out x (List.mem_of_getElem? hx)
    obtain ⟨x,rfl⟩:=Int.eq_ofNat_of_zero_le v0
    have hc:=hbe.cell (p:=⟨b0,o0 + k,none⟩) (fun hs => hs.elim HN0.out.1 HN0.out.2) hcx
    have hs:=hsum.out
    rw [dropN hx,tabT,Int.toNat_natCast,← List.append_assoc] at hs
    obtain ⟨G,hG⟩:∃ G,G = l ++ moveT M x:=⟨_,rfl⟩
    rw [← hG] at hs
    have hGl:G.length ≤ 1100000:=by
     have:=congrArg List.length hs
     rw [List.length_append] at this;omega
    have HG:=hide hG
    have HS:=hide hs
    have HK:=hide (And.intro hwr.out (And.intro hrw hbe))
    clear hs hsum hx hcx hG hwr hrw hbe
    go_wp2_with fail
    go_loopw [4] (fun nw wx => ∃ (m:Nat) (rw:Option Nat) (l:List Bool),nw = .int .i64 m ∧ m ≤ 15 ∧ (m ≤ x ∨ m = M) ∧ Hid (Wr wx p rw l) ∧ rowNew w row rw ∧ Hid (l ++ moveT m x = G) ∧ Fr (wS p row) w wx) (fun nw _ => x - (intOf nw).toNat)
    case atStart => exact ⟨M,rw1,l,rfl,hM,.inr rfl,HK.out.1,HK.out.2.1,HG.out.symm,HK.out.2.2⟩
    case round =>
     clear HG HK hc
     obtain ⟨m,rw2,l2,rfl,hm,hmx,hwr,hrw,hsum,hbe⟩:=hrel
     have hl2:l2.length ≤ 1100000:=by
      have:=congrArg List.length hsum.out
      rw [List.length_append] at this;omega
     by_cases hlt2:m < x
     · have hmv:=hsum.out
       rw [moveT_up hlt2] at hmv
       have HMv:=hide hmv
       have ad:=add_i p rw2 l2 2 2 wr (by decide) (by decide) (by decide) (by decide) hwr.out (by simp;omega)
       have HAd2:=hide ad
       clear ad hmv hsum hwr
       go_wp2_with (go_at_call 103;refine (Calls.mono HAd2.out ?_);rintro e w3 ⟨rfl,row3,hwr3,hrn3,hfr3⟩)
       have hrow3:=hrw.trans hrn3 hbe.size
       have hbe3:=frNew hbe hrw hfr3
       go_roundw
       case rel => exact ⟨m + 1,row3,_,by go_num,by omega,.inl (by omega),hwr3,hrow3,hide (by rw [show natBits (2:Int).toNat (2:Int).toNat = [true,false] from rfl,List.append_assoc];exact HMv.out),hbe3⟩
       case measure => simp [intOf];omega
     · have HK:=hide (And.intro hwr.out (And.intro hrw (And.intro hbe hsum.out)))
       clear hwr hrw hbe hsum
       go_wp2_with fail
       go_loopw [4] (fun nw wx => ∃ (m:Nat) (rw:Option Nat) (l:List Bool),nw = .int .i64 m ∧ m ≤ 15 ∧ x ≤ m ∧ Hid (Wr wx p rw l) ∧ rowNew w row rw ∧ Hid (l ++ moveT m x = G) ∧ Fr (wS p row) w wx) (fun nw _ => (intOf nw).toNat - x)
       case atStart => exact ⟨m,rw2,l2,rfl,hm,by omega,HK.out.1,HK.out.2.1,HK.out.2.2.2,HK.out.2.2.1⟩
       case round =>
        clear HK
        obtain ⟨m,rw2,l2,rfl,hm,hmx,hwr,hrw,hsum,hbe⟩:=hrel
        have hl2:l2.length ≤ 1100000:=by
         have:=congrArg List.length hsum.out
         rw [List.length_append] at this;omega
        by_cases hlt3:x < m
        · have hmv:=hsum.out
          rw [moveT_down hlt3] at hmv
          have HMv:=hide hmv
          have ad:=add_i p rw2 l2 3 2 wr (by decide) (by decide) (by decide) (by decide) hwr.out (by simp;omega)
          have HAd2:=hide ad
          clear ad hmv hsum hwr
          go_wp2_with (go_at_call 103;refine (Calls.mono HAd2.out ?_);rintro e w3 ⟨rfl,row3,hwr3,hrn3,hfr3⟩)
          have hrow3:=hrw.trans hrn3 hbe.size
          have hbe3:=frNew hbe hrw hfr3
          go_roundw
          case rel => exact ⟨m - 1,row3,_,v_int (by omega),by omega,by omega,hwr3,hrow3,hide (by rw [show natBits (3:Int).toNat (2:Int).toNat = [true,true] from rfl,List.append_assoc];exact HMv.out),hbe3⟩
          case measure => simp [intOf];omega
        · obtain rfl:m = x:=by omega
          have hmv:=hsum.out
          rw [moveT_same] at hmv
          have HMv:=hide hmv
          have ad:=add_i p rw2 l2 0 1 wr (by decide) (by decide) (by decide) (by decide) hwr.out (by simp;omega)
          have HAd2:=hide ad
          clear ad hmv hsum hwr
          go_wp2_with (go_at_call 103;refine (Calls.mono HAd2.out ?_);rintro e w3 ⟨rfl,row3,hwr3,hrn3,hfr3⟩)
          have hrow3:=hrw.trans hrn3 hbe.size
          have hbe3:=frNew hbe hrw hfr3
          go_roundw
          case rel => exact ⟨k + 1,m,row3,_,by omega,by go_num,rfl,hm,hwr3,hrow3,hide (by rw [show natBits (0:Int).toNat (1:Int).toNat = [false] from rfl,HMv.out];exact HS.out),hbe3⟩
          case measure => simp [intOf];omega
  · have hs:=hsum.out
    rw [List.drop_eq_nil_of_le (by simp;omega),tabT,List.append_nil] at hs
    have HS:=hide hs
    clear hs hsum
    go_wp2_with fail
    refine bodyPost_ret (results_none rfl _ _ _) rfl ?_
    exact ⟨rfl,rw1,by rw [← HFe.out,← HS.out];exact hwr.out,hrw,hbe⟩
def lexL:List Nat → List Nat → Bool
 | _,[] => false
 | [],_ :: _ => true
 | a :: x,b :: y => if a < b then true else if b < a then false else lexL x y
theorem lexL_cons (a b:Nat) (x y:List Nat):lexL (a :: x) (b :: y) = true ↔ a < b ∨ (a = b ∧ lexL x y = true):=by
 rw [lexL]
 by_cases h1:a < b
 · rw [if_pos h1];simp [h1]
 · rw [if_neg h1]
   by_cases h2:b < a
   · rw [if_pos h2]
     constructor
     · intro h;cases h
     · rintro (h | ⟨h,_⟩) <;> omega
   · rw [if_neg h2]
     have:a = b:=by omega
     subst this
     simp
theorem lexL_irrefl (x:List Nat):lexL x x = false:=by
 induction x with
 | nil => rfl
 | cons a x ih =>
   rw [Bool.eq_false_iff]
   intro h
   rcases (lexL_cons a a x x).1 h with h | ⟨_,h⟩
   · omega
   · rw [ih] at h;cases h
theorem lexL_trans:∀ {x y z:List Nat},lexL x y = true → lexL y z = true → lexL x z = true:=by
 intro x
 induction x with
 | nil =>
   intro y z h1 h2
   cases y with
   | nil => cases h1
   | cons b y =>
     cases z with
     | nil => cases h2
     | cons c z => rfl
 | cons a x ih =>
   intro y z h1 h2
   cases y with
   | nil => cases h1
   | cons b y =>
     cases z with
     | nil => cases h2
     | cons c z =>
       rcases (lexL_cons _ _ _ _).1 h1 with h | ⟨rfl,h⟩
       · rcases (lexL_cons _ _ _ _).1 h2 with g | ⟨rfl,g⟩
         · exact (lexL_cons _ _ _ _).2 (.inl (by omega))
         · exact (lexL_cons _ _ _ _).2 (.inl h)
       · rcases (lexL_cons _ _ _ _).1 h2 with g | ⟨rfl,g⟩
         · exact (lexL_cons _ _ _ _).2 (.inl g)
         · exact (lexL_cons _ _ _ _).2 (.inr ⟨rfl,ih h g⟩)
theorem lexL_total:∀ {x y:List Nat},x ≠ y → lexL x y = true ∨ lexL y x = true:=by
 intro x
 induction x with
 | nil =>
   intro y h
   cases y with
   | nil => exact absurd rfl h
   | cons b y => exact .inl rfl
 | cons a x ih =>
   intro y h
   cases y with
   | nil => exact .inr rfl
   | cons b y =>
     rcases Nat.lt_trichotomy a b with g | rfl | g
     · exact .inl ((lexL_cons _ _ _ _).2 (.inl g))
     · rcases ih (y:=y) (fun e => h (by rw [e])) with g | g
       · exact .inl ((lexL_cons _ _ _ _).2 (.inr ⟨rfl,g⟩))
       · exact .inr ((lexL_cons _ _ _ _).2 (.inr ⟨rfl,g⟩))
     · exact .inr ((lexL_cons _ _ _ _).2 (.inl g))
theorem lexL_asymm {x y:List Nat} (h:lexL x y = true):lexL y x = false:=by
 rw [Bool.eq_false_iff]
 intro g
 have:=lexL_trans h g
 rw [lexL_irrefl] at this
 cases this
def sufLt (s:List Nat) (a b:Nat):Bool:=lexL (s.drop a) (s.drop b)
structure IsEnds (s es:List Nat):Prop where
 perm:es.Perm (List.range s.length)
 sorted:es.Pairwise fun a b => sufLt s a b = true
theorem drop_inj {s:List Nat} {a b:Nat} (ha:a ≤ s.length) (hb:b ≤ s.length) (h:s.drop a = s.drop b):a = b:=by
 have:=congrArg List.length h
 rw [List.length_drop,List.length_drop] at this
 omega
theorem sufLt_total {s:List Nat} {a b:Nat} (ha:a ≤ s.length) (hb:b ≤ s.length) (h:a ≠ b):sufLt s a b = true ∨ sufLt s b a = true:=lexL_total fun e => h (drop_inj ha hb e)
theorem IsEnds.mem {s es:List Nat} (h:IsEnds s es) {k:Nat}:k ∈ es ↔ k < s.length:=by rw [h.perm.mem_iff,List.mem_range]
theorem IsEnds.len {s es:List Nat} (h:IsEnds s es):es.length = s.length:=by rw [h.perm.length_eq,List.length_range]
theorem IsEnds.unique {s es es':List Nat} (h:IsEnds s es) (h':IsEnds s es'):es = es':=by
 refine List.Perm.eq_of_pairwise (le:=fun a b => sufLt s a b = true) ?_ h.sorted h'.sorted (h.perm.trans h'.perm.symm)
 intro a b _ _ h1 h2
 rw [show sufLt s b a = false from lexL_asymm h1] at h2
 cases h2
def rk (s:List Nat) (k:Nat):Nat:=(List.range (s.length + 1)).countP fun m => sufLt s m k
theorem countP_less {α:Type} {p q:α → Bool}:∀ {l:List α},(∀ x ∈ l,p x = true → q x = true) → (∃ x ∈ l,q x = true ∧ p x = false) → l.countP p < l.countP q:=by
 intro l
 induction l with
 | nil => rintro _ ⟨x,hx,_⟩;simp at hx
 | cons a l ih =>
   rintro hs ⟨x,hx,hq,hp⟩
   rw [List.countP_cons,List.countP_cons]
   have hle:l.countP p ≤ l.countP q:=List.countP_mono_left (fun y hy => hs y (List.mem_cons_of_mem _ hy))
   rcases List.mem_cons.1 hx with rfl | hx
   · rw [hq,hp];simp;omega
   · have:=ih (fun y hy => hs y (List.mem_cons_of_mem _ hy)) ⟨x,hx,hq,hp⟩
     have ha:=hs a (by simp)
     by_cases h:p a = true
     · rw [h,ha h];simp;omega
     · rw [if_neg h];split <;> omega
theorem rk_mono {s:List Nat} {a b:Nat} (ha:a ≤ s.length) (h:sufLt s a b = true):rk s a < rk s b :=
 countP_less (fun m _ hm => lexL_trans hm h) ⟨a,List.mem_range.2 (by omega),h,lexL_irrefl _⟩
theorem rk_inj {s:List Nat} {a b:Nat} (ha:a ≤ s.length) (hb:b ≤ s.length) (h:rk s a = rk s b):a = b:=by
 by_cases e:a = b
 · exact e
 · rcases sufLt_total ha hb e with g | g
   · have:=rk_mono ha g;omega
   · have:=rk_mono hb g;omega
theorem sufLt_end {s:List Nat} {k:Nat} (h:k < s.length):sufLt s s.length k = true:=by
 unfold sufLt
 rw [List.drop_length,List.drop_eq_getElem_cons h];rfl
theorem sufLt_end' {s:List Nat} {k:Nat}:sufLt s k s.length = false:=by
 unfold sufLt
 rw [List.drop_length]
 cases s.drop k <;> rfl
theorem rk_len (s:List Nat):rk s s.length = 0:=by
 unfold rk
 rw [List.countP_eq_zero]
 intro m _
 rw [sufLt_end']
 simp
theorem countP_sorted {α:Type} {lt:α → α → Bool} (hirr:∀ a,lt a a = false) (has:∀ a b,lt a b = true → lt b a = false):∀ {l:List α},l.Pairwise (fun a b => lt a b = true) → ∀ {i:Nat} (h:i < l.length),l.countP (fun m => lt m l[i]) = i:=by
 intro l
 induction l with
 | nil => intro _ i h;simp at h
 | cons a l ih =>
   intro hp i h
   rw [List.pairwise_cons] at hp
   cases i with
   | zero =>
     rw [List.getElem_cons_zero,List.countP_eq_zero]
     intro m hm
     rcases List.mem_cons.1 hm with rfl | hm
     · rw [hirr];simp
     · rw [has _ _ (hp.1 m hm)];simp
   | succ i =>
     have hi:i < l.length:=by simpa using h
     rw [List.getElem_cons_succ,List.countP_cons,ih hp.2 hi,hp.1 _ (List.getElem_mem hi)];simp
def rowsL (s es:List Nat):List Nat:=s.length :: es
section
variable {s es:List Nat}
theorem rowsL_sorted (h:IsEnds s es):(rowsL s es).Pairwise fun a b => sufLt s a b = true:=by
 unfold rowsL
 rw [List.pairwise_cons]
 exact ⟨fun b hb => sufLt_end (h.mem.1 hb),h.sorted⟩
theorem rowsL_perm (h:IsEnds s es):(rowsL s es).Perm (List.range (s.length + 1)):=by
 unfold rowsL
 rw [List.range_succ]
 exact (List.Perm.cons _ h.perm).trans (List.perm_append_comm (l₁:=[s.length]))
theorem rowsL_len (h:IsEnds s es):(rowsL s es).length = s.length + 1:=by unfold rowsL;rw [List.length_cons,h.len]
theorem rowsL_rk (h:IsEnds s es) {r:Nat} (hr:r < (rowsL s es).length):rk s (rowsL s es)[r] = r:=by
 unfold rk
 rw [← (rowsL_perm h).countP_eq]
 exact countP_sorted (lt:=sufLt s) (fun a => lexL_irrefl _) (fun a b hab => lexL_asymm hab) (rowsL_sorted h) hr
theorem rowsL_mem (h:IsEnds s es) {k:Nat}:k ∈ rowsL s es ↔ k ≤ s.length:=by rw [(rowsL_perm h).mem_iff,List.mem_range];omega
theorem rk_le (h:IsEnds s es) {k:Nat} (hk:k ≤ s.length):rk s k ≤ s.length:=by
 obtain ⟨r,hr,he⟩:=List.getElem_of_mem ((rowsL_mem h).2 hk)
 have:=rowsL_rk h hr
 rw [he] at this
 rw [rowsL_len h] at hr
 omega
theorem rowsL_at (h:IsEnds s es) {k:Nat} (hk:k ≤ s.length) (hr:rk s k < (rowsL s es).length):(rowsL s es)[rk s k] = k:=by
 have h1:=rowsL_rk h hr
 exact rk_inj ((rowsL_mem h).1 (List.getElem_mem hr)) hk h1
def primL (s es:List Nat):Nat:=(rowsL s es).idxOf 0
def othersL (s es:List Nat):List Nat:=(rowsL s es).eraseIdx (primL s es)
def colL (s es:List Nat):List Nat:=(othersL s es).map fun k => s.getD (k - 1) 0
theorem prim_lt (h:IsEnds s es):primL s es < (rowsL s es).length:=List.idxOf_lt_length_of_mem ((rowsL_mem h).2 (Nat.zero_le _))
theorem prim_get (h:IsEnds s es):(rowsL s es)[primL s es]'(prim_lt h) = 0:=List.getElem_idxOf (prim_lt h)
theorem prim_rk (h:IsEnds s es):primL s es = rk s 0:=by
 have:=rowsL_rk h (prim_lt h)
 rw [prim_get h] at this
 exact this.symm
theorem othersL_len (h:IsEnds s es):(othersL s es).length = s.length:=by
 unfold othersL
 rw [List.length_eraseIdx,if_pos (prim_lt h),rowsL_len h];omega
theorem colL_len (h:IsEnds s es):(colL s es).length = s.length:=by unfold colL;rw [List.length_map,othersL_len h]
theorem othersL_sorted (h:IsEnds s es):(othersL s es).Pairwise fun a b => sufLt s a b = true:=(rowsL_sorted h).sublist (List.eraseIdx_sublist _ _)
theorem rows_split (h:IsEnds s es):(rowsL s es).Perm (0 :: othersL s es):=by
 unfold othersL
 have key:∀ (l:List Nat) (p:Nat) (hp:p < l.length),l[p] = 0 → l.Perm (0 :: l.eraseIdx p):=by
  intro l p hp hg
  have e:l = l.take p ++ 0 :: l.drop (p + 1):=by rw [← hg,← List.drop_eq_getElem_cons hp,List.take_append_drop]
  conv => lhs;rw [e]
  rw [List.eraseIdx_eq_take_drop_succ]
  exact List.perm_middle
 exact key _ _ (prim_lt h) (prim_get h)
theorem others_pos (h:IsEnds s es) {k:Nat} (hk:k ∈ othersL s es):1 ≤ k ∧ k ≤ s.length:=by
 have hn:(0 :: othersL s es).Nodup:=(rows_split h).nodup_iff.1 ((rowsL_perm h).nodup_iff.2 List.nodup_range)
 rw [List.nodup_cons] at hn
 have h1:k ∈ rowsL s es:=(rows_split h).mem_iff.2 (List.mem_cons_of_mem _ hk)
 have h2:=(rowsL_mem h).1 h1
 refine ⟨?_,h2⟩
 rcases Nat.eq_zero_or_pos k with rfl | g
 · exact absurd hk hn.1
 · exact g
theorem others_pred (h:IsEnds s es):((othersL s es).map fun k => k - 1).Perm (List.range s.length):=by
 have h1:(0 :: othersL s es).Perm (List.range (s.length + 1)):=(rows_split h).symm.trans (rowsL_perm h)
 rw [List.range_succ_eq_map] at h1
 have h2:=(List.perm_cons 0).1 h1
 have h3:=h2.map fun k => k - 1
 rw [List.map_map] at h3
 refine h3.trans ?_
 have:(List.range s.length).map ((fun k => k - 1) ∘ Nat.succ) = List.range s.length:=by
  conv => rhs;rw [← List.map_id (List.range s.length)]
  apply List.map_congr_left
  intro k _
  simp
 rw [this]
def atR (p r:Nat):Nat:=if p < r then r - 1 else r
theorem others_at (h:IsEnds s es) {r:Nat} (hr:r < (rowsL s es).length) (hne:r ≠ primL s es):(othersL s es)[atR (primL s es) r]? = some (rowsL s es)[r]:=by
 unfold othersL atR
 rw [List.getElem?_eraseIdx]
 by_cases g:primL s es < r
 · rw [if_pos g,if_neg (by omega),Nat.sub_add_cancel (by omega),List.getElem?_eq_getElem hr]
 · rw [if_neg g,if_pos (by omega),List.getElem?_eq_getElem hr]
end
def rowP (c:List Nat) (i:Nat):Nat:=1 + c.countP (fun y => decide (y < c.getD i 0)) + (c.take i).count (c.getD i 0)
theorem sufLt_step {s:List Nat} {a b:Nat} (ha:a < s.length) (hb:b < s.length):sufLt s a b = true ↔ s.getD a 0 < s.getD b 0 ∨ (s.getD a 0 = s.getD b 0 ∧ sufLt s (a + 1) (b + 1) = true):=by
 unfold sufLt
 rw [List.drop_eq_getElem_cons ha,List.drop_eq_getElem_cons hb,lexL_cons,List.getD_eq_getElem?_getD,List.getD_eq_getElem?_getD,List.getElem?_eq_getElem ha,List.getElem?_eq_getElem hb];rfl
theorem rowP_split (c:List Nat) {i:Nat} (hi:i < c.length):rowP c i = 1 + (c.take i).countP (fun y => decide (y ≤ c.getD i 0)) + (c.drop (i + 1)).countP (fun y => decide (y < c.getD i 0)):=by
 unfold rowP
 generalize hx:c.getD i 0 = x
 have hc:c[i] = x:=by rw [← hx,List.getD_eq_getElem?_getD,List.getElem?_eq_getElem hi];rfl
 have e:c = c.take i ++ x :: c.drop (i + 1):=by rw [← hc,← List.drop_eq_getElem_cons hi,List.take_append_drop]
 have h1:c.countP (fun y => decide (y < x)) = (c.take i).countP (fun y => decide (y < x)) + (c.drop (i + 1)).countP (fun y => decide (y < x)):=by
  conv => lhs;rw [e]
  rw [List.countP_append,List.countP_cons];simp
 have h2:∀ l:List Nat,l.countP (fun y => decide (y ≤ x)) = l.countP (fun y => decide (y < x)) + l.count x:=by
  intro l
  induction l with
  | nil => rfl
  | cons y l ih =>
    rw [List.countP_cons,List.countP_cons,List.count_cons,ih]
    rcases Nat.lt_trichotomy y x with g | g | g
    · simp [g,Nat.le_of_lt g,Nat.ne_of_lt g];omega
    · simp [g];omega
    · simp [Nat.not_le.2 g,Nat.not_lt.2 (Nat.le_of_lt g),Nat.ne_of_gt g]
 rw [h1,h2];omega
section
variable {s es:List Nat}
theorem col_get (i:Nat):(colL s es)[i]? = (othersL s es)[i]?.map fun k => s.getD (k - 1) 0:=by unfold colL;rw [List.getElem?_map]
theorem rowP_rk (h:IsEnds s es) {i k:Nat} (hk:(othersL s es)[i]? = some k):rowP (colL s es) i = rk s (k - 1):=by
 obtain ⟨hi,rfl⟩:=List.getElem?_eq_some_iff.1 hk
 have hic:i < (colL s es).length:=by rw [colL_len h,← othersL_len h];exact hi
 have hkp:=others_pos h (List.getElem_mem hi)
 have hx:(colL s es).getD i 0 = s.getD ((othersL s es)[i] - 1) 0:=by rw [List.getD_eq_getElem?_getD,col_get,hk];rfl
 rw [rowP_split _ hic,hx]
 unfold rk
 rw [List.range_succ,List.countP_append,List.countP_singleton,if_pos (sufLt_end (by omega)),← (others_pred h).countP_eq,List.countP_map]
 have e:othersL s es = (othersL s es).take i ++ (othersL s es)[i] :: (othersL s es).drop (i + 1):=by rw [← List.drop_eq_getElem_cons hi,List.take_append_drop]
 have hso:=othersL_sorted h
 have hpos:=fun q (hq:q ∈ othersL s es) => others_pos h hq
 generalize (othersL s es)[i] = k at *
 generalize hO:othersL s es = O at *
 have hcol:colL s es = O.map fun q => s.getD (q - 1) 0:=by unfold colL;rw [hO]
 have hmt:∀ q ∈ O.take i,q ∈ O:=fun q hq => List.mem_of_mem_take hq
 have hmd:∀ q ∈ O.drop (i + 1),q ∈ O:=fun q hq => List.mem_of_mem_drop hq
 rw [e,List.pairwise_append] at hso
 rw [hcol,← List.map_take,← List.map_drop,List.countP_map,List.countP_map]
 conv => rhs;rw [e,List.countP_append,List.countP_cons]
 have hkk:((fun m => sufLt s m (k - 1)) ∘ fun k => k - 1) k = false:=lexL_irrefl _
 rw [hkk]
 have h1:(O.take i).countP ((fun y => decide (y ≤ s.getD (k - 1) 0)) ∘ fun q => s.getD (q - 1) 0) = (O.take i).countP ((fun m => sufLt s m (k - 1)) ∘ fun k => k - 1):=by
  apply List.countP_congr
  intro q hq
  have hqp:=hpos q (hmt q hq)
  have hlt:sufLt s q k = true:=hso.2.2 q hq k (by simp)
  have:=sufLt_step (s:=s) (a:=q - 1) (b:=k - 1) (by omega) (by omega)
  rw [Nat.sub_add_cancel hqp.1,Nat.sub_add_cancel hkp.1] at this
  simp only [Function.comp,decide_eq_true_eq]
  rw [this]
  simp only [hlt,and_true]
  omega
 have h2:(O.drop (i + 1)).countP ((fun y => decide (y < s.getD (k - 1) 0)) ∘ fun q => s.getD (q - 1) 0) = (O.drop (i + 1)).countP ((fun m => sufLt s m (k - 1)) ∘ fun k => k - 1):=by
  apply List.countP_congr
  intro q hq
  have hqp:=hpos q (hmd q hq)
  have hlt:sufLt s q k = false:=lexL_asymm ((List.pairwise_cons.1 hso.2.1).1 q hq)
  have:=sufLt_step (s:=s) (a:=q - 1) (b:=k - 1) (by omega) (by omega)
  rw [Nat.sub_add_cancel hqp.1,Nat.sub_add_cancel hkp.1] at this
  simp only [Function.comp,decide_eq_true_eq]
  rw [this]
  simp [hlt]
 rw [h1,h2]
 simp
 omega
def textW (c:List Nat) (p:Nat):Nat → Nat → List Nat → Option (List Nat)
 | 0,row,acc => if row = p then some acc else none
 | k + 1,row,acc => if row = p then none else textW c p k (rowP c (atR p row)) (c.getD (atR p row) 0 :: acc)
theorem textW_back (h:IsEnds s es):∀ k,k ≤ s.length → textW (colL s es) (primL s es) k (rk s k) (s.drop k) = some s:=by
 intro k
 induction k with
 | zero => intro _;rw [textW,if_pos (prim_rk h).symm];rfl
 | succ k ih =>
   intro hk
   have hne:rk s (k + 1) ≠ primL s es:=by
    rw [prim_rk h]
    intro e
    have:=rk_inj hk (Nat.zero_le _) e
    omega
   have hr:rk s (k + 1) < (rowsL s es).length:=by rw [rowsL_len h];have:=rk_le h hk;omega
   have ha:=others_at h hr hne
   rw [rowsL_at h hk hr] at ha
   rw [textW,if_neg hne,rowP_rk h ha,Nat.add_sub_cancel]
   have hc:(colL s es).getD (atR (primL s es) (rk s (k + 1))) 0 = s.getD k 0:=by rw [List.getD_eq_getElem?_getD,col_get,ha];rfl
   have hd:s.getD k 0 :: s.drop (k + 1) = s.drop k:=by
    rw [List.drop_eq_getElem_cons (i:=k) (by omega),List.getD_eq_getElem?_getD,List.getElem?_eq_getElem (by omega)];rfl
   rw [hc,hd]
   exact ih (by omega)
theorem text_col (h:IsEnds s es):textW (colL s es) (primL s es) s.length 0 [] = some s:=by
 have:=textW_back h s.length (Nat.le_refl _)
 rwa [rk_len,List.drop_length] at this
end
def pre (s:List Nat) (k a:Nat):List Nat:=(s.drop a).take k
structure RankOK (s:List Nat) (k:Nat) (rank:List Nat):Prop where
 len:rank.length = s.length
 lt:∀ a,a < s.length → rank.getD a 0 < s.length
 iff:∀ a b,a < s.length → b < s.length → (rank.getD a 0 < rank.getD b 0 ↔ lexL (pre s k a) (pre s k b) = true)
def behindL (rank:List Nat) (k i:Nat):Nat:=if i + k < rank.length then rank.getD (i + k) 0 + 1 else 0
def cmpN (a b:Nat):Int:=if a < b then -1 else if b < a then 1 else 0
def cmpD (rank:List Nat) (k a b:Nat):Int:=if cmpN (rank.getD a 0) (rank.getD b 0) = 0 then cmpN (behindL rank k a) (behindL rank k b) else cmpN (rank.getD a 0) (rank.getD b 0)
def lessD (rank:List Nat) (k a b:Nat):Bool:=decide (cmpD rank k a b < 0)
theorem cmpN_zero (a b:Nat):cmpN a b = 0 ↔ a = b:=by unfold cmpN;split <;> (try split) <;> omega
theorem cmpN_neg (a b:Nat):cmpN a b < 0 ↔ a < b:=by unfold cmpN;split <;> (try split) <;> omega
theorem lessD_iff (rank:List Nat) (k a b:Nat):lessD rank k a b = true ↔ rank.getD a 0 < rank.getD b 0 ∨ (rank.getD a 0 = rank.getD b 0 ∧ behindL rank k a < behindL rank k b):=by
 unfold lessD cmpD
 rw [decide_eq_true_eq]
 by_cases h:rank.getD a 0 = rank.getD b 0
 · rw [if_pos ((cmpN_zero _ _).2 h),cmpN_neg];omega
 · rw [if_neg (fun e => h ((cmpN_zero _ _).1 e)),cmpN_neg];omega
theorem lexL_app:∀ {x y x' y':List Nat},lexL x y = true → (x' = [] ∨ y.length ≤ x.length) → lexL (x ++ x') (y ++ y') = true:=by
 intro x
 induction x with
 | nil =>
   intro y x' y' h g
   cases y with
   | nil => cases h
   | cons b y =>
     rcases g with rfl | g
     · rfl
     · simp at g
 | cons a x ih =>
   intro y x' y' h g
   cases y with
   | nil => cases h
   | cons b y =>
     rw [List.cons_append,List.cons_append]
     rcases (lexL_cons _ _ _ _).1 h with h1 | ⟨h1,h2⟩
     · exact (lexL_cons _ _ _ _).2 (.inl h1)
     · exact (lexL_cons _ _ _ _).2 (.inr ⟨h1,ih h2 (g.imp id fun g => by simpa using g)⟩)
theorem lexL_same:∀ (x:List Nat) {x' y':List Nat},lexL (x ++ x') (x ++ y') = lexL x' y':=by
 intro x
 induction x with
 | nil => intro x' y';rfl
 | cons a x ih =>
   intro x' y'
   rw [Bool.eq_iff_iff,List.cons_append,List.cons_append,lexL_cons,ih]
   simp
theorem pre_length (s:List Nat) (k a:Nat):(pre s k a).length = min k (s.length - a):=by unfold pre;rw [List.length_take,List.length_drop]
theorem pre_two (s:List Nat) (k a:Nat):pre s (k + k) a = pre s k a ++ pre s k (a + k):=by
 unfold pre
 rw [List.take_add,List.drop_drop]
theorem pre_end {s:List Nat} {k a:Nat} (h:s.length ≤ a):pre s k a = []:=by unfold pre;rw [List.drop_eq_nil_of_le h,List.take_nil]
theorem RankOK.eq_iff {s:List Nat} {k:Nat} {rank:List Nat} (h:RankOK s k rank) {a b:Nat} (ha:a < s.length) (hb:b < s.length):rank.getD a 0 = rank.getD b 0 ↔ pre s k a = pre s k b:=by
 constructor
 · intro e
   by_cases g:pre s k a = pre s k b
   · exact g
   · rcases lexL_total g with g | g
     · have:=(h.iff a b ha hb).2 g;omega
     · have:=(h.iff b a hb ha).2 g;omega
 · intro e
   have h1:=h.iff a b ha hb
   have h2:=h.iff b a hb ha
   rw [e,lexL_irrefl] at h1 h2
   have h3:¬ rank.getD a 0 < rank.getD b 0:=fun g => by have:=h1.1 g;cases this
   have h4:¬ rank.getD b 0 < rank.getD a 0:=fun g => by have:=h2.1 g;cases this
   omega
theorem lessD_lex {s:List Nat} {k:Nat} {rank:List Nat} (h:RankOK s k rank) (hk:1 ≤ k) {a b:Nat} (ha:a < s.length) (hb:b < s.length):lessD rank k a b = true ↔ lexL (pre s (k + k) a) (pre s (k + k) b) = true:=by
 have key:∀ {a b:Nat},a < s.length → b < s.length → lexL (pre s k a) (pre s k b) = true → lexL (pre s (k + k) a) (pre s (k + k) b) = true:=by
  intro a b ha hb hl
  rw [pre_two,pre_two]
  refine lexL_app hl ?_
  rw [pre_length,pre_length]
  by_cases g:a + k < s.length
  · right;omega
  · left;exact pre_end (by omega)
 rw [lessD_iff]
 by_cases e:pre s k a = pre s k b
 · have hr:=(h.eq_iff ha hb).2 e
   rw [pre_two,pre_two,e,lexL_same]
   by_cases hab:a = b
   · subst hab
     rw [lexL_irrefl]
     simp
   · have hl:=congrArg List.length e
     rw [pre_length,pre_length] at hl
     unfold behindL
     rw [h.len]
     by_cases ga:a + k < s.length
     · rw [if_pos ga]
       by_cases gb:b + k < s.length
       · rw [if_pos gb,← h.iff _ _ ga gb];omega
       · rw [if_neg gb,pre_end (a:=b + k) (by omega)]
         have:lexL (pre s k (a + k)) [] = false:=by cases pre s k (a + k) <;> rfl
         rw [this]
         constructor
         · intro h;omega
         · intro h;cases h
     · rw [if_neg ga,pre_end (a:=a + k) (by omega)]
       by_cases gb:b + k < s.length
       · rw [if_pos gb]
         have:lexL [] (pre s k (b + k)) = true:=by
          have h1:=pre_length s k (b + k)
          cases hp:pre s k (b + k) with
          | nil => rw [hp] at h1;simp at h1;omega
          | cons x l => rfl
         rw [this]
         constructor
         · intro _;rfl
         · intro _;right;omega
       · omega
 · rcases lexL_total e with g | g
   · have h1:=(h.iff a b ha hb).2 g
     rw [key ha hb g]
     constructor
     · intro _;rfl
     · intro _;exact .inl h1
   · have h1:=(h.iff b a hb ha).2 g
     rw [lexL_asymm (key hb ha g)]
     constructor
     · intro h;omega
     · intro h;cases h
def outD (lt:Nat → Nat → Bool) (es:List Nat) (n:Nat):Nat → List Nat
 | 0 => List.replicate n 0
 | j + 1 => (outD lt es n j).set (es.getD (j + 1) 0) ((outD lt es n j).getD (es.getD j 0) 0 + if lt (es.getD j 0) (es.getD (j + 1) 0) then 1 else 0)
def cntD (lt:Nat → Nat → Bool) (es:List Nat):Nat → Nat
 | 0 => 0
 | j + 1 => cntD lt es j + if lt (es.getD j 0) (es.getD (j + 1) 0) then 1 else 0
theorem outD_length (lt:Nat → Nat → Bool) (es:List Nat) (n:Nat):∀ j,(outD lt es n j).length = n:=by
 intro j
 induction j with
 | zero => simp [outD]
 | succ j ih => rw [outD,List.length_set,ih]
theorem cntD_le (lt:Nat → Nat → Bool) (es:List Nat):∀ j,cntD lt es j ≤ j:=by
 intro j
 induction j with
 | zero => exact Nat.le_refl 0
 | succ j ih => rw [cntD];split <;> omega
theorem getD_injD {es:List Nat} (hn:es.Nodup) {i j:Nat} (hi:i < es.length) (hj:j < es.length) (h:es.getD i 0 = es.getD j 0):i = j:=by
 rw [List.getD_eq_getElem?_getD,List.getD_eq_getElem?_getD,List.getElem?_eq_getElem hi,List.getElem?_eq_getElem hj] at h
 exact (List.getElem_inj hn (h₀:=hi) (h₁:=hj)).1 h
theorem outD_get {lt:Nat → Nat → Bool} {es:List Nat} {n:Nat} (hp:es.Perm (List.range n)):∀ j,j < n → ∀ i,i ≤ j → (outD lt es n j).getD (es.getD i 0) 0 = cntD lt es i:=by
 have hl:es.length = n:=by rw [hp.length_eq,List.length_range]
 have hnd:es.Nodup:=hp.nodup_iff.2 List.nodup_range
 have hlt:∀ i,i < n → es.getD i 0 < n:=by
  intro i hi
  rw [List.getD_eq_getElem?_getD,List.getElem?_eq_getElem (by omega)]
  exact List.mem_range.1 (hp.mem_iff.1 (List.getElem_mem (by omega)))
 intro j
 induction j with
 | zero =>
   intro _ i hi
   obtain rfl:i = 0:=by omega
   rw [outD,cntD,List.getD_eq_getElem?_getD,List.getElem?_replicate]
   split <;> rfl
 | succ j ih =>
   intro hj i hi
   have h1:=ih (by omega)
   rw [outD,List.getD_eq_getElem?_getD,List.getElem?_set]
   by_cases e:i = j + 1
   · subst e
     rw [if_pos rfl,if_pos (by rw [outD_length];exact hlt _ hj),h1 j (Nat.le_refl j)]
     rfl
   · rw [if_neg (fun g => e (getD_injD hnd (by omega) (by omega) g).symm),← List.getD_eq_getElem?_getD]
     exact h1 i (by omega)
theorem cnt_iff {P:Nat → List Nat} {n:Nat} (hs:∀ i j,i < j → j < n → lexL (P j) (P i) = false) {c:Nat → Nat} (hc:∀ j,j + 1 < n → c (j + 1) = c j + if lexL (P j) (P (j + 1)) then 1 else 0) :
 ∀ {i j:Nat},i ≤ j → j < n → c i ≤ c j ∧ (c i < c j ↔ lexL (P i) (P j) = true):=by
 intro i j
 induction j with
 | zero =>
   intro hi _
   obtain rfl:i = 0:=by omega
   rw [lexL_irrefl];simp
 | succ j ih =>
   intro hi hj
   by_cases e:i = j + 1
   · subst e;rw [lexL_irrefl];simp
   · have h1:=ih (by omega) (by omega)
     rw [hc j hj]
     by_cases g:lexL (P j) (P (j + 1)) = true
     · rw [if_pos g]
       refine ⟨by omega,fun _ => ?_,fun _ => by omega⟩
       by_cases g2:P i = P j
       · rw [g2];exact g
       · rcases lexL_total g2 with g3 | g3
         · exact lexL_trans g3 g
         · have:i ≠ j:=fun e => g2 (by rw [e])
           rw [hs i j (by omega) (by omega)] at g3;cases g3
     · rw [if_neg g,Nat.add_zero]
       have:P j = P (j + 1):=by
        by_cases g2:P j = P (j + 1)
        · exact g2
        · rcases lexL_total g2 with g3 | g3
          · exact absurd g3 g
          · rw [hs j (j + 1) (by omega) hj] at g3;cases g3
       rw [← this]
       exact h1
theorem rank_two {s es:List Nat} {k:Nat} {rank:List Nat} (h:RankOK s k rank) (hk:1 ≤ k) (hp:es.Perm (List.range s.length)) (hs:∀ i j,i < j → j < s.length → lessD rank k (es.getD j 0) (es.getD i 0) = false) :
 RankOK s (k + k) (outD (lessD rank k) es s.length (s.length - 1)) ∧ ∀ i j,i < j → j < s.length → lexL (pre s (k + k) (es.getD j 0)) (pre s (k + k) (es.getD i 0)) = false:=by
 have hl:es.length = s.length:=by rw [hp.length_eq,List.length_range]
 have hlt:∀ i,i < s.length → es.getD i 0 < s.length:=by
  intro i hi
  rw [List.getD_eq_getElem?_getD,List.getElem?_eq_getElem (by omega)]
  exact List.mem_range.1 (hp.mem_iff.1 (List.getElem_mem (by omega)))
 have hlx:∀ i j,i < s.length → j < s.length → (lessD rank k (es.getD i 0) (es.getD j 0) = true ↔ lexL (pre s (k + k) (es.getD i 0)) (pre s (k + k) (es.getD j 0)) = true):=fun i j hi hj => lessD_lex h hk (hlt i hi) (hlt j hj)
 have hs2:∀ i j,i < j → j < s.length → lexL (pre s (k + k) (es.getD j 0)) (pre s (k + k) (es.getD i 0)) = false:=by
  intro i j hij hj
  have h1:=hs i j hij hj
  rw [Bool.eq_false_iff] at h1 ⊢
  exact fun e => h1 ((hlx j i hj (by omega)).2 e)
 refine ⟨⟨outD_length _ _ _ _, ?_, ?_⟩,hs2⟩
 · intro a ha
   obtain ⟨i,hi,rfl⟩:=List.getElem_of_mem (hp.mem_iff.2 (List.mem_range.2 ha))
   have:=outD_get (lt:=lessD rank k) hp (s.length - 1) (by omega) i (by omega)
   rw [List.getD_eq_getElem?_getD (l:=es),List.getElem?_eq_getElem hi] at this
   have h2:=cntD_le (lessD rank k) es i
   show (outD (lessD rank k) es s.length (s.length - 1)).getD es[i] 0 < _
   rw [show (outD (lessD rank k) es s.length (s.length - 1)).getD es[i] 0 = cntD (lessD rank k) es i from this]
   omega
 · intro a b ha hb
   obtain ⟨i,hi,rfl⟩:=List.getElem_of_mem (hp.mem_iff.2 (List.mem_range.2 ha))
   obtain ⟨j,hj,rfl⟩:=List.getElem_of_mem (hp.mem_iff.2 (List.mem_range.2 hb))
   have o:=outD_get (lt:=lessD rank k) hp (s.length - 1) (by omega)
   have ei:es[i] = es.getD i 0:=by rw [List.getD_eq_getElem?_getD,List.getElem?_eq_getElem hi];rfl
   have ej:es[j] = es.getD j 0:=by rw [List.getD_eq_getElem?_getD,List.getElem?_eq_getElem hj];rfl
   rw [ei,ej,o i (by omega),o j (by omega)]
   have hcn:=fun {i j:Nat} => cnt_iff (i:=i) (j:=j) (P:=fun i => pre s (k + k) (es.getD i 0)) (n:=s.length) hs2 (c:=cntD (lessD rank k) es) (fun j hj => by
    rw [cntD]
    congr 1
    by_cases g:lessD rank k (es.getD j 0) (es.getD (j + 1) 0) = true
    · rw [if_pos g,if_pos ((hlx j (j + 1) (by omega) hj).1 g)]
    · rw [if_neg g,if_neg (fun e => g ((hlx j (j + 1) (by omega) hj).2 e))])
   rcases Nat.le_total i j with g | g
   · exact (hcn g (by omega)).2
   · by_cases e:i = j
     · subst e;rw [lexL_irrefl];simp
     · have h1:=(hcn g (by omega)).1
       rw [hs2 j i (by omega) (by omega)]
       constructor
       · intro h;omega
       · intro h;cases h
theorem ends_of {s es:List Nat} {m:Nat} (hp:es.Perm (List.range s.length)) (hs:∀ i j,i < j → j < s.length → lexL (pre s m (es.getD j 0)) (pre s m (es.getD i 0)) = false) (hm:s.length ≤ m):IsEnds s es:=by
 have hl:es.length = s.length:=by rw [hp.length_eq,List.length_range]
 have hnd:es.Nodup:=hp.nodup_iff.2 List.nodup_range
 refine ⟨hp, ?_⟩
 rw [List.pairwise_iff_getElem]
 intro i j hi hj hij
 have h1:=hs i j hij (by omega)
 rw [List.getD_eq_getElem?_getD,List.getD_eq_getElem?_getD,List.getElem?_eq_getElem hi,List.getElem?_eq_getElem hj] at h1
 simp only [Option.getD_some] at h1
 unfold pre at h1
 rw [List.take_of_length_le (by rw [List.length_drop];omega),List.take_of_length_le (by rw [List.length_drop];omega)] at h1
 have ha:es[i] < s.length:=List.mem_range.1 (hp.mem_iff.1 (List.getElem_mem hi))
 have hb:es[j] < s.length:=List.mem_range.1 (hp.mem_iff.1 (List.getElem_mem hj))
 rcases sufLt_total (s:=s) (a:=es[i]) (b:=es[j]) (by omega) (by omega) (fun e => by have:=(List.getElem_inj hnd).1 e;omega) with g | g
 · exact g
 · unfold sufLt at g;rw [h1] at g;cases g
theorem rank_one {s d rank:List Nat} (hd:d.Pairwise fun a b => a < b) (hl:rank.length = s.length) (hdl:d.length ≤ s.length) (hr:∀ a,a < s.length → rank.getD a 0 < d.length ∧ d.getD (rank.getD a 0) 0 = s.getD a 0):RankOK s 1 rank:=by
 refine ⟨hl,fun a ha => Nat.lt_of_lt_of_le (hr a ha).1 hdl,fun a b ha hb => ?_⟩
 have e:∀ a,a < s.length → pre s 1 a = [s.getD a 0]:=by
  intro a ha
  unfold pre
  rw [List.drop_eq_getElem_cons ha,List.getD_eq_getElem?_getD,List.getElem?_eq_getElem ha];rfl
 rw [e a ha,e b hb,lexL_cons]
 obtain ⟨h1,h2⟩:=hr a ha
 obtain ⟨h3,h4⟩:=hr b hb
 rw [← h2,← h4]
 generalize rank.getD a 0 = x at *
 generalize rank.getD b 0 = y at *
 rw [List.pairwise_iff_getElem] at hd
 have hm:∀ x y,x < y → y < d.length → d.getD x 0 < d.getD y 0:=by
  intro x y hxy hy
  have:=hd x y (by omega) hy hxy
  rw [List.getD_eq_getElem?_getD,List.getD_eq_getElem?_getD,List.getElem?_eq_getElem hy,List.getElem?_eq_getElem (by omega)]
  exact this
 have h5:lexL [] [] = false:=rfl
 rw [h5]
 constructor
 · intro h;exact .inl (hm x y h h3)
 · rintro (h | ⟨_,h⟩)
   · rcases Nat.lt_trichotomy x y with g | rfl | g
     · exact g
     · omega
     · have:=hm y x g h1;omega
   · cases h
theorem perm_range {n:Nat} {l:List Nat} (hn:l.Nodup) (h:∀ x ∈ l,x < n) (hl:l.length = n):l.Perm (List.range n):=by
 rw [List.perm_iff_count]
 intro x
 rw [hn.count,List.nodup_range.count]
 by_cases g:x < n
 · rw [if_pos (nodup_full hn h hl g),if_pos (List.mem_range.2 g)]
 · rw [if_neg (fun e => g (h x e)),if_neg (fun e => g (List.mem_range.1 e))]
theorem textW_rows {c:List Nat} {p:Nat}:∀ {k row:Nat} {acc t:List Nat},textW c p k row acc = some t →
 ∃ ρ:Nat → Nat,ρ k = row ∧ (∀ j,j < k → ρ (j + 1) ≠ p ∧ ρ j = rowP c (atR p (ρ (j + 1)))) ∧ ρ 0 = p ∧ t = ((List.range k).map fun j => c.getD (atR p (ρ (j + 1))) 0) ++ acc:=by
 intro k
 induction k with
 | zero =>
   intro row acc t h
   rw [textW] at h
   by_cases e:row = p
   · rw [if_pos e] at h
     cases h
     exact ⟨fun _ => row,rfl,fun j hj => by omega,e,rfl⟩
   · rw [if_neg e] at h;cases h
 | succ k ih =>
   intro row acc t h
   rw [textW] at h
   by_cases e:row = p
   · rw [if_pos e] at h;cases h
   · rw [if_neg e] at h
     obtain ⟨ρ,h1,h2,h3,h4⟩:=ih h
     refine ⟨fun j => if j = k + 1 then row else ρ j,if_pos rfl,fun j hj => ?_, ?_, ?_⟩
     · by_cases g:j = k
       · subst g
         show (if j + 1 = j + 1 then row else ρ (j + 1)) ≠ p ∧ (if j = j + 1 then row else ρ j) = rowP c (atR p (if j + 1 = j + 1 then row else ρ (j + 1)))
         rw [if_pos rfl,if_neg (show ¬ j = j + 1 by omega)]
         exact ⟨e,h1⟩
       · show (if j + 1 = k + 1 then row else ρ (j + 1)) ≠ p ∧ (if j = k + 1 then row else ρ j) = rowP c (atR p (if j + 1 = k + 1 then row else ρ (j + 1)))
         rw [if_neg (show ¬ j + 1 = k + 1 by omega),if_neg (show ¬ j = k + 1 by omega)]
         exact h2 j (by omega)
     · exact h3
     · rw [h4,List.range_succ,List.map_append,List.append_assoc]
       have e1:(List.range k).map (fun j => c.getD (atR p (ρ (j + 1))) 0) = (List.range k).map (fun j => c.getD (atR p (if j + 1 = k + 1 then row else ρ (j + 1))) 0):=by
        apply List.map_congr_left
        intro j hj
        rw [if_neg (by have:=List.mem_range.1 hj;omega)]
       rw [e1]
       simp
theorem count_take_succ {c:List Nat} {i:Nat} (hi:i < c.length):(c.take (i + 1)).count (c.getD i 0) = (c.take i).count (c.getD i 0) + 1:=by
 rw [List.take_add_one,List.getElem?_eq_getElem hi,List.getD_eq_getElem?_getD,List.getElem?_eq_getElem hi,List.count_append]
 simp
theorem countP_two (c:List Nat) {x y:Nat} (h:x < y):c.countP (fun z => decide (z < x)) + c.count x ≤ c.countP (fun z => decide (z < y)):=by
 induction c with
 | nil => simp
 | cons z c ih =>
   rw [List.countP_cons,List.countP_cons,List.count_cons]
   rcases Nat.lt_trichotomy z x with g | g | g
   · simp [g,Nat.lt_trans g h,Nat.ne_of_lt g];omega
   · simp [g,h];omega
   · simp [Nat.not_lt.2 (Nat.le_of_lt g),Nat.ne_of_gt g];omega
theorem rowP_mono {c:List Nat} {i j:Nat} (hi:i < c.length) (hj:j < c.length) (h:c.getD i 0 < c.getD j 0 ∨ (c.getD i 0 = c.getD j 0 ∧ i < j)):rowP c i < rowP c j:=by
 have h1:=count_take_succ hi
 unfold rowP
 rcases h with h | ⟨h,g⟩
 · have h2:=countP_two c h
   have h3:(c.take (i + 1)).count (c.getD i 0) ≤ c.count (c.getD i 0):=(List.take_sublist _ _).count_le _
   omega
 · rw [← h]
   have h3:(c.take (i + 1)).count (c.getD i 0) ≤ (c.take j).count (c.getD i 0):=by
    have:c.take (i + 1) = (c.take j).take (i + 1):=by rw [List.take_take,Nat.min_eq_left (by omega)]
    rw [this]
    exact (List.take_sublist _ _).count_le _
   omega
theorem rowP_iff {c:List Nat} {i j:Nat} (hi:i < c.length) (hj:j < c.length):rowP c i < rowP c j ↔ (c.getD i 0 < c.getD j 0 ∨ (c.getD i 0 = c.getD j 0 ∧ i < j)):=by
 constructor
 · intro h
   by_cases g:c.getD i 0 < c.getD j 0 ∨ (c.getD i 0 = c.getD j 0 ∧ i < j)
   · exact g
   · by_cases e:i = j
     · subst e;omega
     · have:=rowP_mono hj hi (by omega)
       omega
 · exact rowP_mono hi hj
theorem rowP_pos (c:List Nat) (i:Nat):1 ≤ rowP c i:=by unfold rowP;omega
theorem countP_le_all (c:List Nat) (x:Nat):c.countP (fun z => decide (z < x)) + c.count x ≤ c.length:=by
 induction c with
 | nil => simp
 | cons z c ih =>
   rw [List.countP_cons,List.count_cons,List.length_cons]
   rcases Nat.lt_trichotomy z x with g | g | g
   · simp [g,Nat.ne_of_lt g];omega
   · simp [g];omega
   · simp [Nat.not_lt.2 (Nat.le_of_lt g),Nat.ne_of_gt g];omega
theorem rowP_le {c:List Nat} {i:Nat} (hi:i < c.length):rowP c i ≤ c.length:=by
 have h1:=count_take_succ hi
 have h3:(c.take (i + 1)).count (c.getD i 0) ≤ c.count (c.getD i 0):=(List.take_sublist _ _).count_le _
 have:=countP_le_all c (c.getD i 0)
 unfold rowP
 omega
theorem atR_lt {n p r:Nat} (hr:r ≤ n) (hp:p ≤ n) (hne:r ≠ p):atR p r < n:=by unfold atR;split <;> omega
theorem atR_mono {p r q:Nat} (hr:r ≠ p) (hq:q ≠ p):atR p r < atR p q ↔ r < q:=by unfold atR;split <;> split <;> omega
theorem col_text {c t es:List Nat} {p:Nat} (hp:p ≤ c.length) (h:textW c p c.length 0 [] = some t) (he:IsEnds t es):t.length = c.length ∧ colL t es = c ∧ primL t es = p:=by
 obtain ⟨ρ,h1,h2,h3,h4⟩:=textW_rows h
 rw [List.append_nil] at h4
 have hlen:t.length = c.length:=by rw [h4,List.length_map,List.length_range]
 have hget:∀ j,j < c.length → t.getD j 0 = c.getD (atR p (ρ (j + 1))) 0:=by
  intro j hj
  rw [h4,List.getD_eq_getElem?_getD,List.getElem?_map,List.getElem?_range hj];rfl
 clear h h4
 generalize hn:c.length = n at *
 have hle:∀ d j,j + d = n → ρ j ≤ n:=by
  intro d
  induction d with
  | zero => intro j hj;rw [show j = n by omega,h1];omega
  | succ d ih =>
    intro j hj
    have:=ih (j + 1) (by omega)
    have h5:=h2 j (by omega)
    rw [h5.2]
    have:=rowP_le (c:=c) (i:=atR p (ρ (j + 1))) (by rw [hn];exact atR_lt this hp h5.1)
    omega
 have hat:∀ j,j < n → atR p (ρ (j + 1)) < n:=fun j hj => atR_lt (hle (n - (j + 1)) (j + 1) (by omega)) hp (h2 j hj).1
 have hpos:∀ j,j < n → 1 ≤ ρ j:=fun j hj => by rw [(h2 j hj).2];exact rowP_pos _ _
 have hmono:∀ d a b,a + d = n → b ≤ n → (ρ a < ρ b ↔ sufLt t a b = true):=by
  intro d
  induction d with
  | zero =>
    intro a b ha hb
    have ea:a = n:=by omega
    subst ea
    rw [h1]
    by_cases e:b = a
    · subst e
      rw [h1]
      constructor
      · intro h;omega
      · intro h;rw [show sufLt t b b = false from lexL_irrefl _] at h;cases h
    · have:=hpos b (by omega)
      constructor
      · intro _;have:=sufLt_end (s:=t) (k:=b) (by omega);rwa [hlen] at this
      · intro _;omega
  | succ d ih =>
    intro a b ha hb
    by_cases e:b = n
    · subst e
      rw [h1]
      constructor
      · intro h;omega
      · intro h
        have:=sufLt_end' (s:=t) (k:=a)
        rw [hlen,h] at this
        cases this
    · have hb':b < n:=by omega
      have ha':a < n:=by omega
      rw [sufLt_step (by omega) (by omega),(h2 a ha').2,(h2 b hb').2,rowP_iff (by rw [hn];exact hat a ha') (by rw [hn];exact hat b hb'),hget a ha',hget b hb',atR_mono (h2 a ha').1 (h2 b hb').1,ih (a + 1) (b + 1) (by omega) (by omega)]
 have hrk:∀ k,k ≤ n → rk t k = ρ k:=by
  intro k hk
  unfold rk
  rw [hlen]
  have e1:(List.range (n + 1)).countP (fun m => sufLt t m k) = (List.range (n + 1)).countP ((fun r => decide (r < ρ k)) ∘ ρ):=by
   apply List.countP_congr
   intro m hm
   have hm':m ≤ n:=by have:=List.mem_range.1 hm;omega
   rw [← hmono (n - m) m k (by omega) hk]
   simp
  rw [e1,← List.countP_map]
  have hnd:((List.range (n + 1)).map ρ).Nodup:=by
   rw [List.Nodup,List.pairwise_map]
   refine List.Pairwise.imp_of_mem ?_ (List.nodup_range (n:=n + 1))
   intro a b ha hb hab e
   have ha':a ≤ n:=by have:=List.mem_range.1 ha;omega
   have hb':b ≤ n:=by have:=List.mem_range.1 hb;omega
   rcases sufLt_total (s:=t) (a:=a) (b:=b) (by omega) (by omega) hab with g | g
   · have:=(hmono (n - a) a b (by omega) hb').2 g;omega
   · have:=(hmono (n - b) b a (by omega) ha').2 g;omega
  have hp2:=perm_range (n:=n + 1) hnd (fun x hx => by
   obtain ⟨m,hm,rfl⟩:=List.mem_map.1 hx
   have:=List.mem_range.1 hm
   have:=hle (n - m) m (by omega)
   omega) (by rw [List.length_map,List.length_range])
  rw [hp2.countP_eq]
  have hk2:=hle (n - k) k (by omega)
  have e3:∀ (m v:Nat),v ≤ m → (List.range m).countP (fun r => decide (r < v)) = v:=by
   intro m
   induction m with
   | zero => intro v hv;simp;omega
   | succ m ih =>
     intro v hv
     rw [List.range_succ,List.countP_append,List.countP_singleton]
     by_cases g:v ≤ m
     · rw [ih v g,if_neg (by simp;omega)]
       rfl
     · have:v = m + 1:=by omega
       subst this
       rw [if_pos (by simp)]
       have:(List.range m).countP (fun r => decide (r < m + 1)) = (List.range m).length:=by
        rw [List.countP_eq_length]
        intro r hr
        have:=List.mem_range.1 hr
        simp;omega
       rw [this,List.length_range]
  exact e3 (n + 1) (ρ k) (by omega)
 have hpr:primL t es = p:=by rw [prim_rk he,hrk 0 (by omega),h3]
 refine ⟨hlen, ?_,hpr⟩
 apply List.ext_getElem?
 intro i
 rcases Nat.lt_or_ge i n with hi | hi
 · rw [col_get]
   have hr:(if i < p then i else i + 1) < (rowsL t es).length:=by rw [rowsL_len he];split <;> omega
   have hne:(if i < p then i else i + 1) ≠ primL t es:=by rw [hpr];split <;> omega
   have ha:=others_at he hr hne
   have hat2:atR (primL t es) (if i < p then i else i + 1) = i:=by rw [hpr];unfold atR;split <;> split <;> omega
   rw [hat2] at ha
   rw [ha]
   have hk:=rowsL_rk he hr
   have hm:=(rowsL_mem he).1 (List.getElem_mem hr)
   generalize (rowsL t es)[if i < p then i else i + 1] = k at hk hm
   have hkn:k ≤ n:=by omega
   rw [hrk k hkn] at hk
   have hk0:k ≠ 0:=by
    rintro rfl
    rw [h3] at hk
    split at hk <;> omega
   obtain ⟨m,rfl⟩:∃ m,k = m + 1:=⟨k - 1,by omega⟩
   show some (t.getD (m + 1 - 1) 0) = _
   rw [Nat.add_sub_cancel,hget m (by omega),hk]
   have:atR p (if i < p then i else i + 1) = i:=by unfold atR;split <;> split <;> omega
   rw [this,List.getD_eq_getElem?_getD,List.getElem?_eq_getElem (by omega)];rfl
 · rw [List.getElem?_eq_none (by rw [colL_len he];omega),List.getElem?_eq_none (by omega)]
def isDig (c:Nat):Bool:=decide (48 ≤ c) && decide (c ≤ 57)
def decL (l:List Nat):Nat:=l.foldl (fun n c => 10 * n + (c - 48)) 0
theorem decL_snoc (l:List Nat) (c:Nat):decL (l ++ [c]) = 10 * decL l + (c - 48):=by unfold decL;rw [List.foldl_append];rfl
def wordV (w:List Nat):Option Nat :=
 if w = [] ∨ 15 < w.length ∨ w.all isDig = false ∨ (1 < w.length ∧ w.head? = some 48) then none else some (decL w)
def splitL:List Nat → List (List Nat)
 | [] => [[]]
 | c :: s => if c = 32 then [] :: splitL s else match splitL s with
   | [] => [[c]]
   | w :: r => (c :: w) :: r
def allV:List (List Nat) → Option (List Nat)
 | [] => some []
 | w :: r => match wordV w,allV r with
   | some n,some l => some (n :: l)
   | _,_ => none
def numsL (s:List Nat):Option (List Nat):=allV (splitL s)
theorem splitL_word {w r:List Nat} (h:32 ∉ w):splitL (w ++ 32 :: r) = w :: splitL r:=by
 induction w with
 | nil => simp [splitL]
 | cons c w ih =>
   have hc:c ≠ 32:=fun e => h (by rw [e];simp)
   rw [List.cons_append,splitL,if_neg hc,ih (fun e => h (List.mem_cons_of_mem _ e))]
theorem splitL_last {w:List Nat} (h:32 ∉ w):splitL w = [w]:=by
 induction w with
 | nil => rfl
 | cons c w ih =>
   have hc:c ≠ 32:=fun e => h (by rw [e];simp)
   rw [splitL,if_neg hc,ih (fun e => h (List.mem_cons_of_mem _ e))]
def digF:Nat → Nat → List Nat
 | 0,_ => []
 | f + 1,n => (if n < 10 then [] else digF f (n / 10)) ++ [48 + n % 10]
def digL (n:Nat):List Nat:=digF (n + 1) n
theorem digF_any:∀ {f g n:Nat},n < f → n < g → digF f n = digF g n:=by
 intro f
 induction f with
 | zero => intro g n h;omega
 | succ f ih =>
   intro g n h1 h2
   cases g with
   | zero => omega
   | succ g =>
     rw [digF,digF]
     by_cases h:n < 10
     · rw [if_pos h,if_pos h]
     · rw [if_neg h,if_neg h,ih (g:=g) (n:=n / 10) (by omega) (by omega)]
theorem digL_eq (n:Nat):digL n = (if n < 10 then [] else digL (n / 10)) ++ [48 + n % 10]:=by
 unfold digL
 rw [digF]
 by_cases h:n < 10
 · rw [if_pos h,if_pos h]
 · rw [if_neg h,if_neg h,digF_any (f:=n) (g:=n / 10 + 1) (by omega) (by omega)]
theorem digL_dig:∀ (f:Nat) {n:Nat},n ≤ f → ∀ c ∈ digL n,48 ≤ c ∧ c ≤ 57:=by
 intro f
 induction f with
 | zero =>
   intro n h c hc
   obtain rfl:n = 0:=by omega
   rw [digL_eq,if_pos (by omega)] at hc
   simp at hc
   omega
 | succ f ih =>
   intro n h c hc
   rw [digL_eq] at hc
   rcases List.mem_append.1 hc with hc | hc
   · split at hc
     · simp at hc
     · exact ih (n:=n / 10) (by omega) c hc
   · rw [List.mem_singleton.1 hc];omega
theorem digL_dec:∀ (f:Nat) {n:Nat},n ≤ f → decL (digL n) = n:=by
 intro f
 induction f with
 | zero =>
   intro n h
   obtain rfl:n = 0:=by omega
   rfl
 | succ f ih =>
   intro n h
   rw [digL_eq,decL_snoc]
   split
   · show 10 * 0 + _ = n;omega
   · rw [ih (n:=n / 10) (by omega)];omega
theorem digL_pos (n:Nat):0 < (digL n).length:=by rw [digL_eq,List.length_append];simp
theorem digL_len:∀ (k:Nat) {n:Nat},n < 10 ^ (k + 1) → (digL n).length ≤ k + 1:=by
 intro k
 induction k with
 | zero =>
   intro n h
   rw [digL_eq,if_pos (by omega)]
   simp
 | succ k ih =>
   intro n h
   rw [digL_eq,List.length_append]
   split
   · simp
   · have:=ih (n:=n / 10) (by rw [Nat.pow_succ] at h;omega)
     simp;omega
theorem digL_head:∀ (f:Nat) {n:Nat},n ≤ f → 0 < n → (digL n).head? ≠ some 48:=by
 intro f
 induction f with
 | zero => intro n h h0;omega
 | succ f ih =>
   intro n h h0
   rw [digL_eq]
   split
   · simp;omega
   · have h1:=ih (n:=n / 10) (by omega) (by omega)
     rw [List.head?_append]
     cases hd:(digL (n / 10)).head? with
     | none => rw [List.head?_eq_none_iff] at hd;have:=digL_pos (n / 10);rw [hd] at this;simp at this
     | some x => rw [hd] at h1;simpa using h1
theorem word_dig {n:Nat} (h:n < 1000000000000000):wordV (digL n) = some n:=by
 have h1:=digL_dig n (Nat.le_refl n)
 have h2:=digL_dec n (Nat.le_refl n)
 have h3:=digL_pos n
 have h4:=digL_len 14 (n:=n) (by omega)
 unfold wordV
 rw [if_neg,h2]
 rintro (e | e | e | ⟨e,e'⟩)
 · rw [e] at h3;simp at h3
 · omega
 · rw [Bool.eq_false_iff] at e
   apply e
   rw [List.all_eq_true]
   intro c hc
   have:=h1 c hc
   unfold isDig
   simp;omega
 · rcases Nat.eq_zero_or_pos n with rfl | hp
   · simp [digL,digF] at e
   · exact digL_head n (Nat.le_refl n) hp e'
theorem dig_no {n c:Nat} (h:c < 48):c ∉ digL n:=fun e => by have:=digL_dig n (Nat.le_refl n) c e;omega
def joinL:List Nat → List Nat
 | [] => []
 | [n] => digL n
 | n :: m :: r => digL n ++ 32 :: joinL (m :: r)
theorem join_no:∀ {ns:List Nat},10 ∉ joinL ns:=by
 intro ns
 induction ns with
 | nil => simp [joinL]
 | cons n r ih =>
   cases r with
   | nil => exact dig_no (by decide)
   | cons m r =>
     rw [joinL]
     intro h
     rcases List.mem_append.1 h with h | h
     · exact dig_no (by decide) h
     · rcases List.mem_cons.1 h with h | h
       · cases h
       · exact ih h
theorem nums_join:∀ {ns:List Nat},ns ≠ [] → (∀ n ∈ ns,n < 1000000000000000) → numsL (joinL ns) = some ns:=by
 intro ns
 induction ns with
 | nil => intro h;exact absurd rfl h
 | cons n r ih =>
   intro _ hn
   have h0:=word_dig (hn n (by simp))
   cases r with
   | nil =>
     unfold numsL
     rw [joinL,splitL_last (dig_no (by decide)),allV,h0];rfl
   | cons m r =>
     have:=ih (by simp) (fun x hx => hn x (List.mem_cons_of_mem _ hx))
     unfold numsL at this ⊢
     rw [joinL,splitL_word (dig_no (by decide)),allV,h0,this]
def cutN:List Nat → Option (List Nat × List Nat)
 | [] => none
 | c :: s => if c = 10 then some ([],s) else match cutN s with
   | none => none
   | some (a,b) => some (c :: a,b)
theorem cutN_line {a b:List Nat} (h:10 ∉ a):cutN (a ++ 10 :: b) = some (a,b):=by
 induction a with
 | nil => simp [cutN]
 | cons c a ih =>
   have hc:c ≠ 10:=fun e => h (by rw [e];simp)
   rw [List.cons_append,cutN,if_neg hc,ih (fun e => h (List.mem_cons_of_mem _ e))]
theorem cutN_none {a:List Nat} (h:10 ∉ a):cutN a = none:=by
 induction a with
 | nil => rfl
 | cons c a ih =>
   have hc:c ≠ 10:=fun e => h (by rw [e];simp)
   rw [cutN,if_neg hc,ih (fun e => h (List.mem_cons_of_mem _ e))]
theorem cutN_some:∀ {s a b:List Nat},cutN s = some (a,b) → s = a ++ 10 :: b ∧ 10 ∉ a:=by
 intro s
 induction s with
 | nil => intro a b h;cases h
 | cons c s ih =>
   intro a b h
   rw [cutN] at h
   by_cases e:c = 10
   · rw [if_pos e] at h;cases h;exact ⟨by rw [e];rfl,by simp⟩
   · rw [if_neg e] at h
     cases hs:cutN s with
     | none => rw [hs] at h;cases h
     | some p =>
       obtain ⟨a',b'⟩:=p
       rw [hs] at h
       cases h
       obtain ⟨h1,h2⟩:=ih hs
       refine ⟨by rw [h1];rfl,fun hm => ?_⟩
       rcases List.mem_cons.1 hm with hm | hm
       · exact e hm.symm
       · exact h2 hm
theorem cutN_len {s a b:List Nat} (h:cutN s = some (a,b)):a.length + b.length + 1 = s.length:=by
 obtain ⟨h1,_⟩:=cutN_some h
 rw [h1];simp;omega
def readF:Nat → List (List Nat) → List Nat → Option (List (List Nat) × List Nat)
 | 0,_,_ => none
 | f + 1,acc,r => match cutN r with
   | none => none
   | some (s,t) => match numsL s with
     | none => none
     | some l => if t = [] ∧ l.length = 4 then some (acc,l) else if l.length = 6 then readF f (acc ++ [l]) t else none
def readL (r:List Nat):Option (List (List Nat) × List Nat):=readF (r.length + 1) [] r
def lineL (ns:List Nat):List Nat:=joinL ns ++ [10]
def repL (ls:List (List Nat)) (h:List Nat):List Nat:=ls.flatMap lineL ++ lineL h
theorem readF_rep:∀ {ls:List (List Nat)} {h:List Nat} {acc:List (List Nat)} {f:Nat},(∀ l ∈ ls,l.length = 6 ∧ ∀ n ∈ l,n < 1000000000000000) → h.length = 4 → (∀ n ∈ h,n < 1000000000000000) → (repL ls h).length < f → readF f acc (repL ls h) = some (acc ++ ls,h):=by
 intro ls
 induction ls with
 | nil =>
   intro h acc f _ h4 hh hf
   obtain ⟨f,rfl⟩:∃ g,f = g + 1:=⟨f - 1,by omega⟩
   have e:repL [] h = joinL h ++ 10 :: []:=rfl
   rw [readF,e,cutN_line join_no]
   simp only []
   rw [nums_join (by rintro rfl;cases h4) hh]
   simp only []
   rw [if_pos (by first | exact ⟨rfl,h4⟩ | exact ⟨trivial,h4⟩),List.append_nil]
 | cons l ls ih =>
   intro h acc f hl h4 hh hf
   obtain ⟨f,rfl⟩:∃ g,f = g + 1:=⟨f - 1,by omega⟩
   obtain ⟨l6,ln⟩:=hl l (by simp)
   have e:repL (l :: ls) h = joinL l ++ 10 :: repL ls h:=by unfold repL lineL;simp
   rw [e] at hf
   rw [readF,e,cutN_line join_no]
   simp only []
   rw [nums_join (by rintro rfl;cases l6) ln]
   simp only []
   rw [if_neg (by rintro ⟨_,h⟩;omega),if_pos l6,ih (fun x hx => hl x (List.mem_cons_of_mem _ hx)) h4 hh (by simp at hf;omega),List.append_assoc];rfl
theorem read_rep {ls:List (List Nat)} {h:List Nat} (hl:∀ l ∈ ls,l.length = 6 ∧ ∀ n ∈ l,n < 1000000000000000) (h4:h.length = 4) (hh:∀ n ∈ h,n < 1000000000000000):readL (repL ls h) = some (ls,h):=by
 have:=readF_rep (acc:=[]) hl h4 hh (Nat.lt_succ_self _)
 rw [List.nil_append] at this
 exact this
theorem readF_cut:∀ {ls:List (List Nat)} {h:List Nat} {acc:List (List Nat)} {f:Nat},(∀ l ∈ ls,l.length = 6 ∧ ∀ n ∈ l,n < 1000000000000000) → readF f acc (ls.flatMap lineL ++ joinL h) = none:=by
 intro ls
 induction ls with
 | nil =>
   intro h acc f _
   cases f with
   | zero => rfl
   | succ f => rw [readF,List.flatMap_nil,List.nil_append,cutN_none join_no]
 | cons l ls ih =>
   intro h acc f hl
   cases f with
   | zero => rfl
   | succ f =>
     obtain ⟨l6,ln⟩:=hl l (by simp)
     have e:(l :: ls).flatMap lineL ++ joinL h = joinL l ++ 10 :: (ls.flatMap lineL ++ joinL h):=by unfold lineL;simp
     rw [readF,e,cutN_line join_no]
     simp only []
     rw [nums_join (by rintro rfl;cases l6) ln]
     simp only []
     rw [if_neg (by rintro ⟨_,h⟩;omega),if_pos l6]
     exact ih (fun x hx => hl x (List.mem_cons_of_mem _ hx))
end Go.Proofs.YtcfnjpokfodmoaaGreatDoor
