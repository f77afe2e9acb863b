/- Lemmas for the row: TabG, TabH, CrcPlain, StrL, PackA, CodesPlain, Cost, ZeroPlain, MtfPlain, TabC2, EndsPlain, DoublePlain, EndsBack, PackBits, Ref03, DocEnds. -/
import Derived.Test.YtcfnjpokfodmoaaGreatDoorM01
set_option maxRecDepth 100000
set_option linter.unusedVariables false
namespace Go.Proofs.YtcfnjpokfodmoaaGreatDoor
open Go.RowKit
abbrev ers (q:Addr):Value:=.iface 346 (.pointer (some q))
theorem Sents.fr {w w':World} {e0 e1:Value} {S:Nat → Prop} (h:Sents w e0 e1) (hf:Fr S w w') (hS:∀ g,g < 3 → ¬ S g):Sents w' e0 e1 :=
 ⟨hf.cell (hS _ (by decide)) h.1,hf.cell (hS _ (by decide)) h.2⟩
theorem take_bit (p:Nat) (s:ByteArray) (N a:Nat) (e0 e1:Value) (w:World) (hr:Rdr w p s N a) (hS:Sents w e0 e1) (hN:N ≤ 1048576) (hs:s.size = (N + 7) / 8) (ha:a < N) {b:Int} (hb:((getN s a 1:Nat):Int) = b) :
 Calls Tryz.prog 176 #[.pointer (some ⟨p,0,none⟩),.int .i64 1] w fun e w' => e = .returned (.tuple #[.int .i64 b,.nilIface]) ∧ Rdr w' p s N (a + 1) ∧ Fr (fun g => g = p) w w':=by
 refine Calls.mono (take_any p s N a 1 e0 e1 w hr hS hN hs (by omega) (by decide)) ?_
 rintro e w' (⟨h,_⟩ | ⟨_,rfl,h,hf⟩)
 · omega
 · rw [hb];exact ⟨rfl,h,hf⟩
theorem take_no (p:Nat) (s:ByteArray) (N a k:Nat) (e0 e1:Value) (w:World) (hr:Rdr w p s N a) (hS:Sents w e0 e1) (hN:N ≤ 1048576) (hs:s.size = (N + 7) / 8) (ha:a ≤ N) (hk:k ≤ 4) (hno:N < a + k) :
 Calls Tryz.prog 176 #[.pointer (some ⟨p,0,none⟩),.int .i64 k] w fun e w' => e = .returned (.tuple #[.int .i64 0,e0]) ∧ ∃ j,w' = w.drewN j:=by
 refine Calls.mono (take_any p s N a k e0 e1 w hr hS hN hs ha hk) ?_
 rintro e w' (⟨_,rfl,h⟩ | ⟨h,_⟩)
 · exact ⟨rfl,h⟩
 · omega
def RNextP (p:Nat) (s:ByteArray) (N:Nat) (x:Int × Nat × List Bool) (e0 e1:Value) (w:World) (e:Ending) (w':World):Prop :=
 Fr (fun g => g = p) w w' ∧
 ((x.1 = 0 ∧ x.2.1 ≤ 15 ∧ ∃ a,a ≤ N ∧ x.2.2 = (bitsL s N).drop a ∧ e = .returned (.tuple #[.int .i64 (x.2.1:Nat),.nilIface]) ∧ Rdr w' p s N a) ∨
  (x.1 = 5 ∧ ∃ v:Int,e = .returned (.tuple #[.int .i64 v,e0])) ∨ (x.1 = 7 ∧ ∃ v:Int,e = .returned (.tuple #[.int .i64 v,e1])))
set_option maxHeartbeats 2000000 in
theorem tnext_any (p:Nat) (s:ByteArray) (N a0 now0:Nat) (q0 q1:Addr) (w:World) (hr:Rdr w p s N a0) (hS:Sents w (ers q0) (ers q1)) (hN:N ≤ 1048576) (hs:s.size = (N + 7) / 8) (ha:a0 ≤ N) (hn:now0 ≤ 15) (hp:3 ≤ p) :
 Calls Tryz.prog 177 #[.pointer (some ⟨p,0,none⟩),.int .i64 now0] w (RNextP p s N (nextT ((bitsL s N).drop a0) now0 0) (ers q0) (ers q1) w):=by
 obtain ⟨X,hX⟩:∃ X,X = nextT ((bitsL s N).drop a0) now0 0:=⟨_,rfl⟩
 rw [← hX]
 have HX:=hide hX
 have HR:=hide hr
 have HS:=hide hS
 have HSz:=hide hs
 clear hX hr hS hs
 go_enter Tryz.func177,Tryz.ntmps177
 go_wp2_with fail
 go_loopw [1,6] (fun nw way wr => ∃ (a now:Nat) (wy:Int),nw = .int .i64 now ∧ way = .int .i64 wy ∧ a ≤ N ∧ now ≤ 15 ∧ (wy = 0 ∨ wy = 1 ∨ wy = -1) ∧ Hid (Rdr wr p s N a) ∧ Hid (Sents wr (ers q0) (ers q1)) ∧ Hid (Fr (fun g => g = p) w wr) ∧ Hid (nextT ((bitsL s N).drop a) now wy = X)) (fun _ _ wr => N - (match wr.cell? ⟨p,2,none⟩ with | some (.int _ a) => a.toNat | _ => 0))
 case atStart => exact ⟨a0,now0,0,rfl,rfl,ha,hn,.inl rfl,HR,HS,hide (Fr.refl _ _),hide HX.out.symm⟩
 case round =>
  clear HR HS HX
  obtain ⟨a,now,wy,rfl,rfl,haN,hnow,hwy,HR,HS,HF,HX⟩:=hrel
  have hm:wr.cell? ⟨p,2,none⟩ = some (.int .i64 a):=by have:=HR.out.cell 2;simpa using this
  have HM:=hide hm
  clear hm
  by_cases g:a < N
  · have sents:∀ w1,Fr (fun g => g = p) wr w1 → Sents w1 (ers q0) (ers q1):=fun w1 h => HS.out.fr h (fun g h1 h2 => by omega)
    have HSn:=hide sents
    clear sents
    cases hb:bitAt s a with
    | false =>
      have T1:=take_bit p s N a (ers q0) (ers q1) wr HR.out HS.out hN HSz.out g (b:=0) (by rw [getN_one,hb];rfl)
      have HT1:=hide T1
      have hx:=HX.out
      rw [next_one g hb] at hx
      have HX2:=hide hx
      clear T1 hx hb
      go_wp2_with (go_at_call 176;refine (Calls.mono HT1.out ?_);rintro e w1 ⟨rfl,hr1,hf1⟩;have HR1:=hide hr1;have HF1:=hide hf1;clear hr1 hf1)
      go_ret2
      exact ⟨HF.out.trans HF1.out (fun _ h => .inl h),.inl (by rw [← HX2.out];exact ⟨rfl,hnow,a + 1,g,rfl,rfl,HR1.out⟩)⟩
    | true =>
      have T1:=take_bit p s N a (ers q0) (ers q1) wr HR.out HS.out hN HSz.out g (b:=1) (by rw [getN_one,hb];rfl)
      have HT1:=hide T1
      have HB:=hide hb
      clear T1 hb
      by_cases g2:a + 1 < N
      · cases hb2:bitAt s (a + 1) with
        | true =>
          have hx:=HX.out
          rw [next_down g2 HB.out hb2] at hx
          have T2:∀ w1,Rdr w1 p s N (a + 1) → Sents w1 (ers q0) (ers q1) → _:=fun w1 h1 h2 => take_bit p s N (a + 1) (ers q0) (ers q1) w1 h1 h2 hN HSz.out g2 (b:=1) (by rw [getN_one,hb2];rfl)
          have HT2:=hide T2
          have HX2:=hide hx
          clear T2 hx hb2
          by_cases gb:now = 0 ∨ wy = 1
          · have hx:=HX2.out
            rw [if_pos gb] at hx
            have HX3:=hide hx
            clear hx
            have fin:∀ (w2:World) (v:Int) (e:Ending),Fr (fun g => g = p) wr w2 → e = .returned (.tuple #[.int .i64 v,ers q1]) → RNextP p s N X (ers q0) (ers q1) w e w2:=fun w2 v e h he => ⟨HF.out.trans h (fun _ h => .inl h),.inr (.inr (by rw [← HX3.out];exact ⟨rfl,v,he⟩))⟩
            have HFin:=hide fin
            clear fin
            by_cases ge:now = 0
            · subst ge
              go_wp2_with (first | (go_at_call 176;refine (Calls.mono HT1.out ?_);rintro e w1 ⟨rfl,hr1,hf1⟩;have HR1:=hide hr1;have HF1:=hide hf1;have HS1:=hide (HSn.out _ hf1);clear hr1 hf1) | (go_at_call 176;refine (Calls.mono (HT2.out _ HR1.out HS1.out) ?_);rintro e w2 ⟨rfl,hr2,hf2⟩;have HR2:=hide hr2;have HF2:=hide (HF1.out.trans hf2 (fun _ h => .inl h));have HS2:=hide (HSn.out _ HF2.out);have hs2:w2.cell? ⟨2,0,none⟩ = some (ers q1):=HS2.out.2;clear hr2 hf2))
              go_region
              go_wp2_with fail
              go_ret2
              exact HFin.out _ _ _ (HF2.out.drewN _) rfl
            · obtain rfl:wy = 1:=gb.resolve_left ge
              have d0:decide ((now:Int) + - 1 < 0) = false:=decide_eq_false (by omega)
              have d1:decide ((15:Int) < (now:Int) + - 1) = false:=decide_eq_false (by omega)
              go_wp2_with (first | (go_at_call 176;refine (Calls.mono HT1.out ?_);rintro e w1 ⟨rfl,hr1,hf1⟩;have HR1:=hide hr1;have HF1:=hide hf1;have HS1:=hide (HSn.out _ hf1);clear hr1 hf1) | (go_at_call 176;refine (Calls.mono (HT2.out _ HR1.out HS1.out) ?_);rintro e w2 ⟨rfl,hr2,hf2⟩;have HR2:=hide hr2;have HF2:=hide (HF1.out.trans hf2 (fun _ h => .inl h));have HS2:=hide (HSn.out _ HF2.out);have hs2:w2.cell? ⟨2,0,none⟩ = some (ers q1):=HS2.out.2;clear hr2 hf2))
              go_region
              go_wp2_with fail
              go_ret2
              exact HFin.out _ _ _ (HF2.out.drewN _) rfl
          · have hx:=HX2.out
            rw [if_neg gb] at hx
            have HX3:=hide hx
            clear hx
            have d0:decide ((now:Int) + - 1 < 0) = false:=decide_eq_false (by omega)
            have d1:decide ((15:Int) < (now:Int) + - 1) = false:=decide_eq_false (by omega)
            have d2:decide (wy = 1) = false:=decide_eq_false (by omega)
            go_wp2_with (first | (go_at_call 176;refine (Calls.mono HT1.out ?_);rintro e w1 ⟨rfl,hr1,hf1⟩;have HR1:=hide hr1;have HF1:=hide hf1;have HS1:=hide (HSn.out _ hf1);clear hr1 hf1) | (go_at_call 176;refine (Calls.mono (HT2.out _ HR1.out HS1.out) ?_);rintro e w2 ⟨rfl,hr2,hf2⟩;have HR2:=hide hr2;have HF2:=hide (HF1.out.trans hf2 (fun _ h => .inl h));have HS2:=hide (HSn.out _ HF2.out);have hs2:w2.cell? ⟨2,0,none⟩ = some (ers q1):=HS2.out.2;clear hr2 hf2))
            go_roundw
            case rel => exact ⟨a + 2,now - 1,-1,v_int (by omega),rfl,g2,by omega,.inr (.inr rfl),HR2,HS2,hide (HF.out.trans HF2.out (fun _ h => .inl h)),HX3⟩
            case measure =>
             have m1:=HM.out
             have m2:w2.cell? ⟨p,2,none⟩ = some (.int .i64 ((a + 1 + 1:Nat):Int)):=by have:=HR2.out.cell 2;simpa using this
             rw [m1,m2];simp only [Int.toNat_natCast];omega
        | false =>
          have hx:=HX.out
          rw [next_up g2 HB.out hb2] at hx
          have T2:∀ w1,Rdr w1 p s N (a + 1) → Sents w1 (ers q0) (ers q1) → _:=fun w1 h1 h2 => take_bit p s N (a + 1) (ers q0) (ers q1) w1 h1 h2 hN HSz.out g2 (b:=0) (by rw [getN_one,hb2];rfl)
          have HT2:=hide T2
          have HX2:=hide hx
          clear T2 hx hb2
          by_cases gb:now = 15 ∨ wy = -1
          · have hx:=HX2.out
            rw [if_pos gb] at hx
            have HX3:=hide hx
            clear hx
            have fin:∀ (w2:World) (v:Int) (e:Ending),Fr (fun g => g = p) wr w2 → e = .returned (.tuple #[.int .i64 v,ers q1]) → RNextP p s N X (ers q0) (ers q1) w e w2:=fun w2 v e h he => ⟨HF.out.trans h (fun _ h => .inl h),.inr (.inr (by rw [← HX3.out];exact ⟨rfl,v,he⟩))⟩
            have HFin:=hide fin
            clear fin
            by_cases ge:now = 15
            · subst ge
              go_wp2_with (first | (go_at_call 176;refine (Calls.mono HT1.out ?_);rintro e w1 ⟨rfl,hr1,hf1⟩;have HR1:=hide hr1;have HF1:=hide hf1;have HS1:=hide (HSn.out _ hf1);clear hr1 hf1) | (go_at_call 176;refine (Calls.mono (HT2.out _ HR1.out HS1.out) ?_);rintro e w2 ⟨rfl,hr2,hf2⟩;have HR2:=hide hr2;have HF2:=hide (HF1.out.trans hf2 (fun _ h => .inl h));have HS2:=hide (HSn.out _ HF2.out);have hs2:w2.cell? ⟨2,0,none⟩ = some (ers q1):=HS2.out.2;clear hr2 hf2))
              go_region
              go_wp2_with fail
              go_ret2
              exact HFin.out _ _ _ (HF2.out.drewN _) rfl
            · obtain rfl:wy = -1:=gb.resolve_left ge
              have d0:decide ((now:Int) +  1 < 0) = false:=decide_eq_false (by omega)
              have d1:decide ((15:Int) < (now:Int) +  1) = false:=decide_eq_false (by omega)
              go_wp2_with (first | (go_at_call 176;refine (Calls.mono HT1.out ?_);rintro e w1 ⟨rfl,hr1,hf1⟩;have HR1:=hide hr1;have HF1:=hide hf1;have HS1:=hide (HSn.out _ hf1);clear hr1 hf1) | (go_at_call 176;refine (Calls.mono (HT2.out _ HR1.out HS1.out) ?_);rintro e w2 ⟨rfl,hr2,hf2⟩;have HR2:=hide hr2;have HF2:=hide (HF1.out.trans hf2 (fun _ h => .inl h));have HS2:=hide (HSn.out _ HF2.out);have hs2:w2.cell? ⟨2,0,none⟩ = some (ers q1):=HS2.out.2;clear hr2 hf2))
              go_region
              go_wp2_with fail
              go_ret2
              exact HFin.out _ _ _ (HF2.out.drewN _) rfl
          · have hx:=HX2.out
            rw [if_neg gb] at hx
            have HX3:=hide hx
            clear hx
            have d0:decide ((now:Int) +  1 < 0) = false:=decide_eq_false (by omega)
            have d1:decide ((15:Int) < (now:Int) +  1) = false:=decide_eq_false (by omega)
            have d2:decide (wy = -1) = false:=decide_eq_false (by omega)
            go_wp2_with (first | (go_at_call 176;refine (Calls.mono HT1.out ?_);rintro e w1 ⟨rfl,hr1,hf1⟩;have HR1:=hide hr1;have HF1:=hide hf1;have HS1:=hide (HSn.out _ hf1);clear hr1 hf1) | (go_at_call 176;refine (Calls.mono (HT2.out _ HR1.out HS1.out) ?_);rintro e w2 ⟨rfl,hr2,hf2⟩;have HR2:=hide hr2;have HF2:=hide (HF1.out.trans hf2 (fun _ h => .inl h));have HS2:=hide (HSn.out _ HF2.out);have hs2:w2.cell? ⟨2,0,none⟩ = some (ers q1):=HS2.out.2;clear hr2 hf2))
            go_roundw
            case rel => exact ⟨a + 2,now + 1,1,by go_num,rfl,g2,by omega,.inr (.inl rfl),HR2,HS2,hide (HF.out.trans HF2.out (fun _ h => .inl h)),HX3⟩
            case measure =>
             have m1:=HM.out
             have m2:w2.cell? ⟨p,2,none⟩ = some (.int .i64 ((a + 1 + 1:Nat):Int)):=by have:=HR2.out.cell 2;simpa using this
             rw [m1,m2];simp only [Int.toNat_natCast];omega
      · have hx:=HX.out
        rw [next_half g HB.out (by omega)] at hx
        have T2:∀ w1,Rdr w1 p s N (a + 1) → Sents w1 (ers q0) (ers q1) → _:=fun w1 h1 h2 => take_no p s N (a + 1) 1 (ers q0) (ers q1) w1 h1 h2 hN HSz.out (by omega) (by decide) (by omega)
        have HT2:=hide T2
        have HX2:=hide hx
        clear T2 hx
        go_wp2_with (first | (go_at_call 176;refine (Calls.mono HT1.out ?_);rintro e w1 ⟨rfl,hr1,hf1⟩;have HR1:=hide hr1;have HF1:=hide hf1;have HS1:=hide (HSn.out _ hf1);clear hr1 hf1) | (go_at_call 176;refine (Calls.mono (HT2.out _ HR1.out HS1.out) ?_);rintro e w2 ⟨rfl,j,rfl⟩))
        go_ret2
        exact ⟨HF.out.trans (HF1.out.drewN j) (fun _ h => .inl h),.inr (.inl (by rw [← HX2.out];exact ⟨rfl,_,rfl⟩))⟩
  · have T1:=take_no p s N a 1 (ers q0) (ers q1) wr HR.out HS.out hN HSz.out haN (by decide) (by omega)
    have HT1:=hide T1
    have hx:=HX.out
    rw [next_end (by omega)] at hx
    have HX2:=hide hx
    clear T1 hx
    go_wp2_with (go_at_call 176;refine (Calls.mono HT1.out ?_);rintro e w1 ⟨rfl,j,rfl⟩)
    go_ret2
    exact ⟨HF.out.drewN j,.inr (.inl (by rw [← HX2.out];exact ⟨rfl,_,rfl⟩))⟩
theorem nextT_kind:∀ (n:Nat) (r:List Bool) (now:Nat) (way:Int),r.length ≤ n → (nextT r now way).1 = 0 ∨ (nextT r now way).1 = 5 ∨ (nextT r now way).1 = 7:=by
 intro n
 induction n with
 | zero =>
   intro r now way h
   obtain rfl:r = []:=List.eq_nil_of_length_eq_zero (by omega)
   rw [nextT];exact .inr (.inl rfl)
 | succ n ih =>
   intro r now way h
   match r,h with
   | [],_ => rw [nextT];exact .inr (.inl rfl)
   | false :: r,_ => rw [nextT];exact .inl rfl
   | [true],_ => rw [nextT];exact .inr (.inl rfl)
   | true :: true :: r,h =>
     rw [nextT]
     split
     · exact .inr (.inr rfl)
     · exact ih _ _ _ (by simp at h;omega)
   | true :: false :: r,h =>
     rw [nextT]
     split
     · exact .inr (.inr rfl)
     · exact ih _ _ _ (by simp at h;omega)
def restT (done:List Nat) (y:Int × List Nat × List Bool):Int × List Nat × List Bool:=if y.1 = 0 then (0,done ++ y.2.1,y.2.2) else (y.1,[],[])
theorem restT_nil {n:Nat} {f:Bool} {r:List Bool} {now:Nat}:restT [] (lensT n f r now) = lensT n f r now:=by
 unfold restT
 split
 · rename_i h
   rw [List.nil_append,← h]
 · rename_i h
   cases n with
   | zero => rw [lensT] at h;exact absurd rfl h
   | succ n =>
     rw [lensT] at h ⊢
     split
     · rename_i g
       rw [if_pos g] at h
       split
       · rfl
       · rename_i g2
         rw [if_neg g2] at h
         split
         · rename_i g3
           rw [if_pos g3] at h;exact absurd rfl h
         · rfl
     · rfl
theorem restT_stop {n:Nat} {f:Bool} {r:List Bool} {now:Nat} {k:Int} {done:List Nat} (h:(nextT r now 0).1 = k) (hk:k ≠ 0):restT done (lensT (n + 1) f r now) = (k,[],[]):=by
 rw [lensT,if_neg (by rw [h];exact hk)]
 unfold restT
 rw [if_neg (by rw [h];exact hk),h]
theorem restT_first {n:Nat} {r:List Bool} {now:Nat} {done:List Nat} (h:(nextT r now 0).1 = 0) (hl:(nextT r now 0).2.1 ≠ now):restT done (lensT (n + 1) true r now) = (7,[],[]):=by
 rw [lensT,if_pos h,if_pos ⟨rfl,hl⟩]
 rfl
theorem restT_on {n:Nat} {f:Bool} {r:List Bool} {now:Nat} {done:List Nat} (h:(nextT r now 0).1 = 0) (hl:f = true → (nextT r now 0).2.1 = now) :
 restT done (lensT (n + 1) f r now) = restT (done ++ [(nextT r now 0).2.1]) (lensT n false (nextT r now 0).2.2 (nextT r now 0).2.1):=by
 rw [lensT,if_pos h,if_neg (by rintro ⟨a,b⟩;exact b (hl a))]
 unfold restT
 split
 · rename_i g
   simp
 · rename_i g
   rfl
def readT (s:ByteArray) (N a n:Nat):Int × List Nat × List Bool :=
 if N < a + 4 then (5,[],[])
 else if (lensT n true ((bitsL s N).drop (a + 4)) (getN s a 4)).1 = 0 then
  (if okL ((lensT n true ((bitsL s N).drop (a + 4)) (getN s a 4)).2.1.map Int.ofNat) then lensT n true ((bitsL s N).drop (a + 4)) (getN s a 4) else (7,[],[]))
 else lensT n true ((bitsL s N).drop (a + 4)) (getN s a 4)
def RLensP (p:Nat) (s:ByteArray) (N n:Nat) (x:Int × List Nat × List Bool) (e0 e1:Value) (w:World) (e:Ending) (w':World):Prop :=
 Fr (fun g => g = p) w w' ∧
 ((x.1 = 0 ∧ ∃ (a c g:Nat),a ≤ N ∧ x.2.2 = (bitsL s N).drop a ∧ e = .returned (.tuple #[.slice (some ⟨g,0,none⟩) n c,.nilIface]) ∧ w.heap.size ≤ g ∧ Bk w' g 3 ((x.2.1.map fun (l:Nat) => Value.int .i64 l)).toArray ∧ Rdr w' p s N a) ∨
  (x.1 = 5 ∧ ∃ v:Value,e = .returned (.tuple #[v,e0])) ∨ (x.1 = 7 ∧ ∃ v:Value,e = .returned (.tuple #[v,e1])))
theorem tnext_l (p:Nat) (s:ByteArray) (N a now:Nat) (q0 q1:Addr) (w:World) (hr:Rdr w p s N a) (hS:Sents w (ers q0) (ers q1)) (hN:N ≤ 1048576) (hs:s.size = (N + 7) / 8) (ha:a ≤ N) (hn:now ≤ 15) (hp:3 ≤ p) {l:Nat} {r:List Bool} (h:nextT ((bitsL s N).drop a) now 0 = (0,l,r)) :
 Calls Tryz.prog 177 #[.pointer (some ⟨p,0,none⟩),.int .i64 now] w fun e w' => e = .returned (.tuple #[.int .i64 l,.nilIface]) ∧ Fr (fun g => g = p) w w' ∧ l ≤ 15 ∧ ∃ a,a ≤ N ∧ r = (bitsL s N).drop a ∧ Rdr w' p s N a:=by
 refine Calls.mono (tnext_any p s N a now q0 q1 w hr hS hN hs ha hn hp) ?_
 rintro e w' ⟨hf,⟨_,hl,a',ha',hd,rfl,hr'⟩ | ⟨h5,_⟩ | ⟨h7,_⟩⟩
 · rw [h] at hl hd ⊢;exact ⟨rfl,hf,hl,a',ha',hd,hr'⟩
 · rw [h] at h5;cases h5
 · rw [h] at h7;cases h7
theorem tnext_0 (p:Nat) (s:ByteArray) (N a now:Nat) (q0 q1:Addr) (w:World) (hr:Rdr w p s N a) (hS:Sents w (ers q0) (ers q1)) (hN:N ≤ 1048576) (hs:s.size = (N + 7) / 8) (ha:a ≤ N) (hn:now ≤ 15) (hp:3 ≤ p) (h:(nextT ((bitsL s N).drop a) now 0).1 = 5) :
 Calls Tryz.prog 177 #[.pointer (some ⟨p,0,none⟩),.int .i64 now] w fun e w' => (∃ v:Int,e = .returned (.tuple #[.int .i64 v,ers q0])) ∧ Fr (fun g => g = p) w w':=by
 refine Calls.mono (tnext_any p s N a now q0 q1 w hr hS hN hs ha hn hp) ?_
 rintro e w' ⟨hf,⟨h0,_⟩ | ⟨_,he⟩ | ⟨h7,_⟩⟩
 · rw [h] at h0;cases h0
 · exact ⟨he,hf⟩
 · rw [h] at h7;cases h7
theorem tnext_1 (p:Nat) (s:ByteArray) (N a now:Nat) (q0 q1:Addr) (w:World) (hr:Rdr w p s N a) (hS:Sents w (ers q0) (ers q1)) (hN:N ≤ 1048576) (hs:s.size = (N + 7) / 8) (ha:a ≤ N) (hn:now ≤ 15) (hp:3 ≤ p) (h:(nextT ((bitsL s N).drop a) now 0).1 = 7) :
 Calls Tryz.prog 177 #[.pointer (some ⟨p,0,none⟩),.int .i64 now] w fun e w' => (∃ v:Int,e = .returned (.tuple #[.int .i64 v,ers q1])) ∧ Fr (fun g => g = p) w w':=by
 refine Calls.mono (tnext_any p s N a now q0 q1 w hr hS hN hs ha hn hp) ?_
 rintro e w' ⟨hf,⟨h0,_⟩ | ⟨h5,_⟩ | ⟨_,he⟩⟩
 · rw [h] at h0;cases h0
 · rw [h] at h5;cases h5
 · exact ⟨he,hf⟩
theorem take_yes (p:Nat) (s:ByteArray) (N a k:Nat) (e0 e1:Value) (w:World) (hr:Rdr w p s N a) (hS:Sents w e0 e1) (hN:N ≤ 1048576) (hs:s.size = (N + 7) / 8) (ha:a + k ≤ N) (hk:k ≤ 4) :
 Calls Tryz.prog 176 #[.pointer (some ⟨p,0,none⟩),.int .i64 k] w fun e w' => e = .returned (.tuple #[.int .i64 (getN s a k:Nat),.nilIface]) ∧ Rdr w' p s N (a + k) ∧ Fr (fun g => g = p) w w':=by
 refine Calls.mono (take_any p s N a k e0 e1 w hr hS hN hs (by omega) hk) ?_
 rintro e w' (⟨h,_⟩ | ⟨_,rfl,h,hf⟩)
 · omega
 · exact ⟨rfl,h,hf⟩
def lensC (done:List Nat) (n:Nat):Array Value:=((done ++ List.replicate (n - done.length) 0).map fun (l:Nat) => Value.int .i64 l).toArray
theorem lensC_nil (n:Nat):lensC [] n = madeCells #[.int .i64 0] n:=by
 unfold lensC
 apply Array.ext
 · simp [size_madeCells]
 · intro i h1 h2;simp [madeCells,Nat.mod_one]
theorem lensC_get {done:List Nat} {n:Nat} (h:done.length < n):(lensC done n)[done.length]? = some (.int .i64 0):=by
 unfold lensC
 rw [List.getElem?_toArray,List.map_append,List.getElem?_append_right (by simp)]
 simp only [List.map_replicate,List.length_map,Nat.sub_self,List.getElem?_replicate]
 rw [if_pos (by omega)];rfl
theorem lensC_set {done:List Nat} {n l:Nat} (h:done.length < n):(lensC done n).setIfInBounds done.length (.int .i64 l) = lensC (done ++ [l]) n:=by
 unfold lensC
 obtain ⟨m,rfl⟩:∃ m,n = done.length + (m + 1):=⟨n - done.length - 1,by omega⟩
 rw [List.setIfInBounds_toArray]
 congr 1
 rw [show done.length + (m + 1) - done.length = m + 1 by omega,List.replicate_succ,List.map_append,List.set_append_right _ _ (by simp)]
 simp [show done.length + (m + 1) - (done.length + 1) = m by omega]
theorem lensC_full {done:List Nat} {n:Nat} (h:done.length = n):lensC done n = ((done.map fun (l:Nat) => Value.int .i64 l)).toArray:=by
 unfold lensC
 rw [h,Nat.sub_self];simp
theorem tcanon (g n c:Nat) (out:List Nat) (w:World) (h:Bk w g 3 ((out.map fun (l:Nat) => Value.int .i64 l)).toArray) (hn:out.length = n) (hlen:n ≤ 512) :
 Calls Tryz.prog 178 #[.slice (some ⟨g,0,none⟩) n c] w fun e w' => e = .returned (.int .i64 (okW (out.map Int.ofNat))) ∧ w' = w:=by
 have hr:Rd w w.heap.size (some ⟨g,0,none⟩) ((out.map Int.ofNat).map (.int .i64)):=by
  intro i u hu
  refine ⟨g,0,rfl,h.lt, ?_⟩
  rw [Nat.zero_add,h.cell i,List.getElem?_toArray,← hu,List.map_map]
  rfl
 have:=canonCheck_any (some ⟨g,0,none⟩) (out.map Int.ofNat) c w hr (by simp;omega)
 rwa [List.length_map,hn] at this
def crcP:Nat:=3988292384
def f1 (r:Nat):Nat:=r / 2 ^^^ (if r % 2 = 1 then crcP else 0)
def fN:Nat → Nat → Nat
 | 0,r => r
 | k + 1,r => fN k (f1 r)
def crcB (r c:Nat):Nat:=fN 8 (r ^^^ c)
theorem xor_half (a b:Nat):(a ^^^ b) / 2 = a / 2 ^^^ b / 2:=by
 apply Nat.eq_of_testBit_eq
 intro i
 rw [Nat.testBit_xor,Nat.testBit_div_two,Nat.testBit_div_two,Nat.testBit_div_two,Nat.testBit_xor]
theorem xor_odd (a b:Nat):(a ^^^ b) % 2 = if a % 2 = b % 2 then 0 else 1:=by
 have h:=Nat.testBit_xor a b 0
 simp only [Nat.testBit_zero] at h
 have ha:=Nat.mod_two_eq_zero_or_one a
 have hb:=Nat.mod_two_eq_zero_or_one b
 have hx:=Nat.mod_two_eq_zero_or_one (a ^^^ b)
 rcases ha with ha | ha <;> rcases hb with hb | hb <;> rcases hx with hx | hx <;> simp [ha,hb,hx] at h ⊢
theorem xor_four (a b c d:Nat):(a ^^^ b) ^^^ (c ^^^ d) = (a ^^^ c) ^^^ (b ^^^ d):=by
 rw [Nat.xor_assoc,Nat.xor_assoc,← Nat.xor_assoc b,Nat.xor_comm b c,Nat.xor_assoc c]
theorem f1_xor (a b:Nat):f1 (a ^^^ b) = f1 a ^^^ f1 b:=by
 unfold f1
 rw [xor_half,xor_odd,xor_four]
 congr 1
 rcases Nat.mod_two_eq_zero_or_one a with ha | ha <;> rcases Nat.mod_two_eq_zero_or_one b with hb | hb <;> simp [ha,hb]
theorem fN_xor (k a b:Nat):fN k (a ^^^ b) = fN k a ^^^ fN k b:=by
 induction k generalizing a b with
 | zero => rfl
 | succ k ih => rw [fN,f1_xor,ih,fN,fN]
theorem fN_succ (k r:Nat):fN (k + 1) r = f1 (fN k r):=by
 induction k generalizing r with
 | zero => rfl
 | succ k ih => rw [fN,ih,fN]
theorem f1_even (m:Nat):f1 (2 * m) = m:=by
 unfold f1
 rw [Nat.mul_mod_right,if_neg (by decide),Nat.xor_zero,Nat.mul_div_cancel_left _ (by decide)]
theorem fN_shift (k m:Nat):fN k (2 ^ k * m) = m:=by
 induction k generalizing m with
 | zero => simp [fN]
 | succ k ih => rw [fN,show 2 ^ (k + 1) * m = 2 * (2 ^ k * m) by rw [Nat.pow_succ];simp [Nat.mul_comm,Nat.mul_left_comm],f1_even,ih]
theorem f1_lt {r:Nat} (h:r < 4294967296):f1 r < 4294967296:=by
 unfold f1
 have h1:r / 2 < 2 ^ 32:=by omega
 have h2:(if r % 2 = 1 then crcP else 0) < 2 ^ 32:=by split <;> decide
 exact Nat.xor_lt_two_pow h1 h2
theorem fN_lt {r:Nat} (h:r < 4294967296) (k:Nat):fN k r < 4294967296:=by
 induction k generalizing r with
 | zero => exact h
 | succ k ih => exact ih (f1_lt h)
theorem xor_lt32 {a b:Nat} (ha:a < 4294967296) (hb:b < 4294967296):a ^^^ b < 4294967296:=Nat.xor_lt_two_pow (n:=32) ha hb
theorem crcB_lt {r c:Nat} (h:r < 4294967296) (hc:c < 256):crcB r c < 4294967296:=fN_lt (xor_lt32 h (by omega)) 8
theorem split8 (x:Nat):x = 256 * (x / 256) ^^^ x % 256:=by
 apply Nat.eq_of_testBit_eq
 intro i
 rw [Nat.testBit_xor,show 256 * (x / 256) = 2 ^ 8 * (x / 256) from rfl,Nat.testBit_two_pow_mul,show x % 256 = x % 2 ^ 8 from rfl,Nat.testBit_mod_two_pow,show x / 256 = x / 2 ^ 8 from rfl,Nat.testBit_div_two_pow]
 by_cases h:i < 8
 · simp [h,Nat.not_le.2 h]
 · have h':8 ≤ i:=by omega
   simp [h,h',Nat.sub_add_cancel h']
theorem xor_hi {r c:Nat} (hc:c < 256):(r ^^^ c) / 256 = r / 256:=by
 apply Nat.eq_of_testBit_eq
 intro i
 rw [show (r ^^^ c) / 256 = (r ^^^ c) / 2 ^ 8 from rfl,show r / 256 = r / 2 ^ 8 from rfl,Nat.testBit_div_two_pow,Nat.testBit_div_two_pow,Nat.testBit_xor,Nat.testBit_lt_two_pow (x:=c) (i:=i + 8) (by
  have:2 ^ 8 ≤ 2 ^ (i + 8):=Nat.pow_le_pow_right (by decide) (by omega)
  omega)]
 simp
theorem crcB_table {r c:Nat} (hc:c < 256):r / 256 ^^^ fN 8 ((r ^^^ c) % 256) = crcB r c:=by
 unfold crcB
 conv => rhs;rw [split8 (r ^^^ c),fN_xor,show 256 * ((r ^^^ c) / 256) = 2 ^ 8 * ((r ^^^ c) / 256) from rfl,fN_shift,xor_hi hc]
def g1 (r d:Nat):Nat:=r / 2 ^^^ (if (r ^^^ d) % 2 = 1 then crcP else 0)
def gN (c:Nat):Nat → Nat → Nat
 | 0,r => r
 | k + 1,r => g1 (gN c k r) (c / 2 ^ k)
theorem gN_eq (c k r:Nat):gN c k r ^^^ c / 2 ^ k = fN k (r ^^^ c):=by
 induction k with
 | zero => simp [gN,fN]
 | succ k ih =>
   rw [fN_succ,← ih,gN,f1_xor]
   unfold g1 f1
   rw [xor_odd,Nat.pow_succ,← Nat.div_div_eq_div_mul]
   generalize gN c k r = a
   generalize c / 2 ^ k = d
   have e1:∀ x y:Nat,x ^^^ (y ^^^ y) = x:=fun x y => by rw [Nat.xor_self,Nat.xor_zero]
   rcases Nat.mod_two_eq_zero_or_one a with ha | ha <;> rcases Nat.mod_two_eq_zero_or_one d with hd | hd <;> simp only [ha,hd,if_true,if_false,Nat.xor_zero,Nat.zero_ne_one,Nat.one_ne_zero,eq_self]
   · rw [Nat.xor_assoc,Nat.xor_comm crcP]
   · rw [Nat.xor_assoc,Nat.xor_comm crcP,Nat.xor_assoc,e1]
theorem gN_byte {c:Nat} (hc:c < 256) (r:Nat):gN c 8 r = crcB r c:=by
 have h:=gN_eq c 8 r
 rw [Nat.div_eq_of_lt (by omega),Nat.xor_zero] at h
 exact h
def crcR (r:Nat) (l:List Nat):Nat:=l.foldl crcB r
theorem crcR_lt {l:List Nat} (hl:∀ x ∈ l,x < 256):∀ {r:Nat},r < 4294967296 → crcR r l < 4294967296:=by
 unfold crcR
 induction l with
 | nil => intro r h;exact h
 | cons c l ih => intro r h;exact ih (fun x hx => hl x (List.mem_cons_of_mem _ hx)) (crcB_lt h (hl c (by simp)))
theorem crcR_snoc (r:Nat) (l:List Nat) (c:Nat):crcR r (l ++ [c]) = crcB (crcR r l) c:=by unfold crcR;rw [List.foldl_append];rfl
def crcM (sum:Nat) (l:List Nat):Nat:=4294967295 - crcR (4294967295 - sum) l
def crcS (l:List Nat):Nat:=crcM 0 l
theorem crcS_lt (l:List Nat):crcS l < 4294967296:=by unfold crcS crcM;omega
def tail4 (n:Nat):List Nat:=[n % 256,n / 256 % 256,n / 65536 % 256,n / 16777216 % 256]
def strL (s:ByteArray):List Nat:=(List.range s.size).map (byt s)
@[simp] theorem strL_length (s:ByteArray):(strL s).length = s.size:=by simp [strL]
theorem strL_get {s:ByteArray} {k:Nat} (h:k < s.size):(strL s)[k]? = some (byt s k):=by simp [strL,h]
theorem strL_lt (s:ByteArray):∀ x ∈ strL s,x < 256:=fun x hx => by
 obtain ⟨k,_,rfl⟩:=List.mem_map.1 hx
 exact byt_lt s k
theorem strL_inj {s t:ByteArray} (h:strL s = strL t):s = t:=by
 have hs:s.size = t.size:=by rw [← strL_length s,h,strL_length]
 refine byt_ext hs fun k hk => ?_
 have h1:=strL_get hk
 rw [h,strL_get (by omega)] at h1
 exact (Option.some.inj h1).symm
theorem strL_of {l:List Nat} (h:∀ x ∈ l,x < 256):strL (strOf l) = l:=by
 apply List.ext_getElem?
 intro k
 rcases Nat.lt_or_ge k l.length with g | g
 · rw [strL_get (by rw [strOf_size];exact g),strOf_byt l h,List.getD_eq_getElem?_getD,List.getElem?_eq_getElem g];rfl
 · rw [List.getElem?_eq_none (by rw [strL_length,strOf_size];exact g),List.getElem?_eq_none g]
theorem strOf_strL (s:ByteArray):strOf (strL s) = s:=strL_inj (strL_of (strL_lt s))
theorem strL_take {s:ByteArray} {k:Nat} (h:k < s.size):(strL s).take (k + 1) = (strL s).take k ++ [byt s k]:=by rw [List.take_add_one,strL_get h];rfl
def five (n:Nat):List Nat:=[n / 4294967296 % 256,n / 16777216 % 256,n / 65536 % 256,n / 256 % 256,n % 256]
def ofB (l:List Nat):Nat:=l.foldl (fun n c => 256 * n + c) 0
theorem ofB_snoc (l:List Nat) (c:Nat):ofB (l ++ [c]) = 256 * ofB l + c:=by unfold ofB;rw [List.foldl_append];rfl
theorem ofB_five {n:Nat} (h:n < 1099511627776):ofB (five n) = n:=by simp only [ofB,five,List.foldl_cons,List.foldl_nil];omega
theorem five_lt (n:Nat):∀ x ∈ five n,x < 256:=by intro x hx;simp [five] at hx;omega
theorem five_ofB {a b c d e:Nat} (ha:a < 256) (hb:b < 256) (hc:c < 256) (hd:d < 256) (he:e < 256):five (ofB [a,b,c,d,e]) = [a,b,c,d,e]:=by
 simp only [ofB,five,List.foldl_cons,List.foldl_nil,List.cons.injEq,and_true]
 omega
theorem tail4_lt (n:Nat):∀ x ∈ tail4 n,x < 256:=by intro x hx;simp [tail4] at hx;omega
def heavyB (x:Int):Bool:=decide (1099511627776 < x)
def alphaB (ws:List Int):Bool:=decide (ws.length ≤ 512) && !ws.any heavyB
theorem heavy_any (x:Int) (w:World):Calls Tryz.prog 185 #[.int .u64 x] w fun e w' => e = .returned (.bool (heavyB x)) ∧ w' = w:=by
 have hb:heavyB x = decide (1099511627776 < x):=rfl
 generalize heavyB x = b at hb ⊢
 go_enter Tryz.func185,Tryz.ntmps185
 go_wp2
 go_ret
 exact ⟨by rw [hb];rfl,rfl⟩
def IndexFP (ws:List Int) (w:World) (e:Ending) (w':World):Prop:=∃ r:Int,e = .returned (.int .i64 r) ∧ (decide (0 ≤ r) = ws.any heavyB) ∧ w' = w
set_option maxHeartbeats 400000 in
theorem indexF_any (A:Option Addr) (ws:List Int) (c:Nat) (w:World) (h:Rd w w.heap.size A (ws.map (.int .u64))) (hlen:ws.length ≤ 9223372036854775807) :
 Calls Tryz.prog 232 #[.slice A ws.length c,.func (.func 185) #[] #[]] w (IndexFP ws w):=by
 have H:=hide h
 clear h
 go_enter Tryz.func232,Tryz.ntmps232
 go_wp2_with fail
 go_loopw [8] (fun i wr => ∃ k:Nat,k ≤ ws.length ∧ i = .int .i64 k ∧ (ws.take k).any heavyB = false ∧ wr = w) (fun i _ => ws.length - (intOf i).toNat)
 case atStart => exact ⟨0,by omega,rfl,by simp,rfl⟩
 case round =>
  obtain ⟨k,hk,rfl,hno,rfl⟩:=hrel
  have HN:=hide hno
  clear hno
  by_cases hlt:k < ws.length
  · obtain ⟨b,o,x,rfl,hb,hx,hc⟩:=H.out.int hlt
    have HX:=hide hx
    have hv:=heavy_any x wr
    obtain ⟨v,hve⟩:∃ v,v = heavyB x:=⟨_,rfl⟩
    rw [← hve] at hv
    have HV:=hide hve
    have HC:=hide hv
    clear hx hv hve
    cases v with
    | true =>
      go_wp2_with (go_at_call 185;refine (Calls.mono HC.out ?_);rintro e w1 ⟨rfl,hww⟩;replace hww:=hww.symm;subst hww)
      go_ret
      refine ⟨k,rfl, ?_,rfl⟩
      rw [decide_eq_true (by omega)]
      exact (any_of HX.out HV.out.symm).symm
    | false =>
      go_wp2_with (go_at_call 185;refine (Calls.mono HC.out ?_);rintro e w1 ⟨rfl,hww⟩;replace hww:=hww.symm;subst hww)
      go_roundw
      case rel => exact ⟨k + 1,by omega,by go_num,by rw [any_step HX.out,HN.out,← HV.out];rfl,by first | rfl | trivial⟩
      case measure => simp [intOf];omega
  · go_wp2_with fail
    go_ret
    refine ⟨-1,rfl, ?_,rfl⟩
    have:=HN.out
    rw [List.take_of_length_le (by omega)] at this
    rw [this];rfl
theorem containsF_any (A:Option Addr) (ws:List Int) (c:Nat) (w:World) (h:Rd w w.heap.size A (ws.map (.int .u64))) (hlen:ws.length ≤ 9223372036854775807) :
 Calls Tryz.prog 184 #[.slice A ws.length c,.func (.func 185) #[] #[]] w fun e w' => e = .returned (.bool (ws.any heavyB)) ∧ w' = w:=by
 have ix:=indexF_any A ws c w h hlen
 have HI:=hide ix
 clear ix h
 go_enter Tryz.func184,Tryz.ntmps184
 go_wp2_with (go_at_call 232;refine (Calls.mono HI.out ?_);rintro e w1 ⟨r,rfl,hr,hww⟩;replace hww:=hww.symm;subst hww;have HR:=hide hr;clear hr)
 go_ret
 exact ⟨ret_bool HR.out,rfl⟩
theorem alphabet_any (A:Option Addr) (ws:List Int) (c:Nat) (w:World) (h:Rd w w.heap.size A (ws.map (.int .u64))) (hlen:ws.length ≤ 9223372036854775807) :
 Calls Tryz.prog 133 #[.slice A ws.length c] w fun e w' => e = .returned (.bool (alphaB ws)) ∧ w' = w:=by
 have ix:=containsF_any A ws c w h hlen
 have hb:alphaB ws = (decide (ws.length ≤ 512) && !ws.any heavyB):=rfl
 generalize ws.any heavyB = b at ix hb
 have HI:=hide ix
 have HB:=hide hb
 clear ix h hb
 by_cases g:ws.length ≤ 512
 · have gd:decide ((ws.length:Int) ≤ 512) = true:=decide_eq_true (by omega)
   go_enter Tryz.func133,Tryz.ntmps133
   go_wp2_with (go_at_call 184;refine (Calls.mono HI.out ?_);rintro e w1 ⟨rfl,hww⟩;replace hww:=hww.symm;subst hww)
   go_ret
   exact ⟨ret_bool (by rw [HB.out,decide_eq_true g];rfl),rfl⟩
 · have gd:decide ((ws.length:Int) ≤ 512) = false:=decide_eq_false (by omega)
   go_enter Tryz.func133,Tryz.ntmps133
   go_wp2_with (go_at_call 184;refine (Calls.mono HI.out ?_);rintro e w1 ⟨rfl,hww⟩;replace hww:=hww.symm;subst hww)
   go_ret
   exact ⟨ret_bool (by rw [HB.out,decide_eq_false g];rfl),rfl⟩
def cmpI (x y:Int):Int:=if x < y then -1 else if y < x then 1 else 0
theorem cmpI_neg (x y:Int):decide (cmpI x y < 0) = decide (x < y):=by
 unfold cmpI
 by_cases h:x < y
 · rw [if_pos h];simp [h]
 · rw [if_neg h]
   split <;> simp [h]
theorem isNaN_any (x:Int) (w:World):Calls Tryz.prog 234 #[.int .u64 x] w fun e w' => e = .returned (.bool false) ∧ w' = w:=by
 go_enter Tryz.func234,Tryz.ntmps234
 go_wp2
 go_ret
 exact ⟨by first | rfl | (simp;done),rfl⟩
theorem compare_any (x y:Int) (w:World):Calls Tryz.prog 188 #[.int .u64 x,.int .u64 y] w fun e w' => e = .returned (.int .i64 (cmpI x y)) ∧ w' = w:=by
 have nan:=fun (z:Int) (W:World) => isNaN_any z W
 have HN:=hide nan
 clear nan
 by_cases h:x < y
 · have e1:cmpI x y = -1:=if_pos h
   rw [e1]
   go_enter Tryz.func188,Tryz.ntmps188
   go_wp2_with (go_at_call 234;refine (Calls.mono (HN.out _ _) ?_);rintro e w1 ⟨rfl,hww⟩;replace hww:=hww.symm;subst hww)
   go_ret
   exact ⟨rfl,rfl⟩
 · by_cases h2:y < x
   · have e1:cmpI x y = 1:=by unfold cmpI;rw [if_neg h,if_pos h2]
     rw [e1]
     go_enter Tryz.func188,Tryz.ntmps188
     go_wp2_with (go_at_call 234;refine (Calls.mono (HN.out _ _) ?_);rintro e w1 ⟨rfl,hww⟩;replace hww:=hww.symm;subst hww)
     go_ret
     exact ⟨rfl,rfl⟩
   · have e1:cmpI x y = 0:=by unfold cmpI;rw [if_neg h,if_neg h2]
     rw [e1]
     go_enter Tryz.func188,Tryz.ntmps188
     go_wp2_with (go_at_call 234;refine (Calls.mono (HN.out _ _) ?_);rintro e w1 ⟨rfl,hww⟩;replace hww:=hww.symm;subst hww)
     go_ret
     exact ⟨rfl,rfl⟩
theorem lcmp_any (B:Nat) (A:Option Addr) (ws:List Int) (c x y:Nat) (w:World) (hB:w.cell? ⟨B,0,none⟩ = some (.slice A ws.length c)) (h:Rd w w.heap.size A (ws.map (.int .u64))) (hx:x < ws.length) (hy:y < ws.length) :
 Calls Tryz.prog 187 #[.int .i64 x,.int .i64 y,.pointer (some ⟨B,0,none⟩)] w fun e w' => e = .returned (.int .i64 (cmpI (ws.getD x 0) (ws.getD y 0))) ∧ ∃ j,w' = w.drewN j:=by
 obtain ⟨b,o,u,hA,hb,hu,hc⟩:=h.int hx
 obtain ⟨b2,o2,v,hA2,hb2,hv,hc2⟩:=h.int hy
 subst hA
 simp only [Option.some.injEq,Addr.mk.injEq,and_true] at hA2
 obtain ⟨rfl,rfl⟩:=hA2
 have e1:ws.getD x 0 = u:=by rw [List.getD_eq_getElem?_getD,hu];rfl
 have e2:ws.getD y 0 = v:=by rw [List.getD_eq_getElem?_getD,hv];rfl
 rw [e1,e2]
 have cp:=fun (W:World) => compare_any u v W
 have HC:=hide cp
 clear cp h hu hv e1 e2
 go_enter Tryz.func187,Tryz.ntmps187
 go_wp2_with fail
 go_quiet ((go_at_call 188;exact Calls.quiet_of_same (HC.out _)))
 go_wp2_with fail
 go_ret
 exact ⟨rfl,_,rfl⟩
def cntT (ls:List Int) (l i:Nat):Nat:=(ls.take i).countP (fun x => decide (x = (l:Int)))
def cntC (ls:List Int) (l:Nat):Nat:=cntT ls l ls.length
def nxtC (ls:List Int):Nat → Nat
 | 0 => 0
 | l + 1 => 2 * nxtC ls l + cntC ls (l + 1)
def fstC (ls:List Int) (l:Nat):Nat:=2 * nxtC ls (l - 1)
def lenN (ls:List Int) (j:Nat):Nat:=(ls.getD j 0).toNat
def codeN (ls:List Int) (j:Nat):Nat:=if 1 ≤ lenN ls j ∧ lenN ls j ≤ 15 then fstC ls (lenN ls j) + cntT ls (lenN ls j) j else 0
def idxT (ls:List Int) (l i:Nat):List Nat:=(List.range i).filter (fun j => decide (ls[j]? = some (l:Int)))
def idxC (ls:List Int) (l:Nat):List Nat:=idxT ls l ls.length
def symC (ls:List Int):Nat → List Nat
 | 0 => []
 | l + 1 => symC ls l ++ idxC ls (l + 1)
theorem cntT_le (ls:List Int) (l i:Nat):cntT ls l i ≤ ls.length:=by
 unfold cntT
 exact Nat.le_trans List.countP_le_length (by simp;omega)
theorem cntT_step {ls:List Int} {l i:Nat} {x:Int} (h:ls[i]? = some x):cntT ls l (i + 1) = cntT ls l i + (if x = (l:Int) then 1 else 0):=by
 unfold cntT
 rw [List.take_add_one,h,List.countP_append]
 by_cases hx:x = (l:Int) <;> simp [hx]
theorem cntT_zero (ls:List Int) (l:Nat):cntT ls l 0 = 0:=by simp [cntT]
theorem idxT_step {ls:List Int} {l i:Nat} {x:Int} (h:ls[i]? = some x):idxT ls l (i + 1) = idxT ls l i ++ (if x = (l:Int) then [i] else []):=by
 unfold idxT
 rw [List.range_succ,List.filter_append]
 by_cases hx:x = (l:Int) <;> simp [h,hx]
theorem idxT_zero (ls:List Int) (l:Nat):idxT ls l 0 = []:=by simp [idxT]
theorem idxT_length (ls:List Int) (l i:Nat) (h:i ≤ ls.length):(idxT ls l i).length = cntT ls l i:=by
 induction i with
 | zero => simp [idxT,cntT]
 | succ i ih =>
   have hx:ls[i]? = some ls[i]:=List.getElem?_eq_getElem (by omega)
   rw [idxT_step hx,cntT_step hx,List.length_append,ih (by omega)]
   split <;> simp
theorem nxtC_le (ls:List Int) (l:Nat):nxtC ls l ≤ l * ls.length * 2 ^ l:=by
 induction l with
 | zero => simp [nxtC]
 | succ l ih =>
   rw [nxtC]
   have h1:cntC ls (l + 1) ≤ ls.length:=cntT_le _ _ _
   have h2:ls.length * 1 ≤ ls.length * 2 ^ (l + 1):=Nat.mul_le_mul_left _ (Nat.two_pow_pos _)
   have h3:(l + 1) * ls.length * 2 ^ (l + 1) = 2 * (l * ls.length * 2 ^ l) + ls.length * 2 ^ (l + 1):=by
    rw [Nat.add_mul,Nat.add_mul,Nat.one_mul,Nat.pow_succ,← Nat.mul_assoc (l * ls.length)];omega
   omega
theorem nxtC_small {ls:List Int} {l:Nat} (h:ls.length ≤ 512) (hl:l ≤ 15):nxtC ls l ≤ 300000000:=by
 have h1:=nxtC_le ls l
 have h2:l * ls.length ≤ 15 * 512:=Nat.mul_le_mul hl h
 have h3:2 ^ l ≤ 2 ^ 15:=Nat.pow_le_pow_right (by omega) hl
 have:=Nat.mul_le_mul h2 h3
 omega
def tab (n:Nat) (f:Nat → Int):List Int:=(List.range n).map f
@[simp] theorem tab_length (n:Nat) (f:Nat → Int):(tab n f).length = n:=by simp [tab]
theorem tab_get {n i:Nat} (f:Nat → Int) (h:i < n):(tab n f)[i]? = some (f i):=by simp [tab,h]
theorem tab_set (n i:Nat) (f:Nat → Int) (v:Int):(tab n f).set i v = tab n (fun j => if j = i then v else f j):=by
 apply List.ext_getElem?
 intro k
 by_cases hk:k < n
 · rw [tab_get _ hk,List.getElem?_set]
   simp only [tab_length]
   by_cases h:i = k
   · subst h;simp [hk]
   · rw [if_neg h,tab_get _ hk,if_neg (fun e => h e.symm)]
 · rw [List.getElem?_eq_none (by simp;omega),List.getElem?_eq_none (by simp;omega)]
theorem tab_congr {n:Nat} {f g:Nat → Int} (h:∀ i,i < n → f i = g i):tab n f = tab n g :=
 List.map_congr_left fun i hi => h i (by simpa using hi)
def cntP (ls:List Int) (l i:Nat):Nat → Int:=fun j => if j = 0 then 0 else if j < l then (cntC ls j:Nat) else if j = l then (cntT ls l i:Nat) else 0
def fstP (ls:List Int) (l:Nat):Nat → Int:=fun j => if j = 0 then 0 else if j ≤ l then (fstC ls j:Nat) else 0
def codP (ls:List Int) (l i:Nat):Nat → Int:=fun j => if lenN ls j = 0 then 0 else if lenN ls j < l ∨ (lenN ls j = l ∧ j < i) then (codeN ls j:Nat) else 0
theorem cntP_hit {ls:List Int} {l i:Nat} (h1:1 ≤ l) (h15:l ≤ 15) (h:ls[i]? = some (l:Int)):(tab 16 (cntP ls l i)).set l ((cntT ls l i:Nat) + 1:Int) = tab 16 (cntP ls l (i + 1)):=by
 rw [tab_set]
 refine tab_congr fun j hj => ?_
 unfold cntP
 rw [cntT_step h,if_pos rfl]
 by_cases e:j = l
 · subst e;simp;omega
 · simp [e]
theorem cntP_miss {ls:List Int} {l i:Nat} {x:Int} (h:ls[i]? = some x) (hx:¬ x = (l:Int)):cntP ls l (i + 1) = cntP ls l i:=by
 unfold cntP;rw [cntT_step h,if_neg hx];rfl
theorem cntP_next (ls:List Int) (l:Nat) (h1:1 ≤ l):cntP ls l ls.length = cntP ls (l + 1) 0:=by
 funext j
 unfold cntP
 rw [cntT_zero]
 by_cases h0:j = 0
 · simp [h0]
 · by_cases hl:j < l
   · simp [h0,hl];omega
   · by_cases he:j = l
     · subst he;simp [h0];rfl
     · simp [h0,hl,he];omega
theorem fstP_next (ls:List Int) (l:Nat) (h1:1 ≤ l) (h15:l ≤ 15):(tab 16 (fstP ls (l - 1))).set l (fstC ls l:Nat) = tab 16 (fstP ls l):=by
 rw [tab_set]
 refine tab_congr fun j hj => ?_
 unfold fstP
 by_cases e:j = l
 · subst e;simp;omega
 · simp only [e,if_false]
   by_cases h0:j = 0
   · simp [h0]
   · by_cases hl:j ≤ l - 1
     · rw [if_neg h0,if_pos hl,if_neg h0,if_pos (by omega)]
     · rw [if_neg h0,if_neg hl,if_neg h0,if_neg (by omega)]
theorem lenN_of {ls:List Int} {i:Nat} {x:Int} (h:ls[i]? = some x):lenN ls i = x.toNat:=by
 unfold lenN;rw [List.getD_eq_getElem?_getD,h];rfl
theorem codP_hit {ls:List Int} {l i:Nat} (h1:1 ≤ l) (h15:l ≤ 15) (h:ls[i]? = some (l:Int)) :
 (tab ls.length (codP ls l i)).set i ((fstC ls l + cntT ls l i:Nat):Int) = tab ls.length (codP ls l (i + 1)):=by
 rw [tab_set]
 refine tab_congr fun j hj => ?_
 have hi:lenN ls i = l:=by rw [lenN_of h];omega
 unfold codP
 by_cases e:j = i
 · subst e
   rw [if_pos rfl,hi,if_neg (by omega),if_pos (by omega)]
   unfold codeN
   rw [hi,if_pos ⟨h1,h15⟩]
 · rw [if_neg e]
   by_cases h0:lenN ls j = 0
   · rw [if_pos h0,if_pos h0]
   · rw [if_neg h0,if_neg h0]
     by_cases hc:lenN ls j < l ∨ (lenN ls j = l ∧ j < i)
     · rw [if_pos hc,if_pos (by omega)]
     · rw [if_neg hc,if_neg (by omega)]
theorem codP_miss {ls:List Int} {l i:Nat} {x:Int} (h1:1 ≤ l) (h:ls[i]? = some x) (hx:¬ x = (l:Int)):codP ls l (i + 1) = codP ls l i:=by
 funext j
 unfold codP
 by_cases e:j = i
 · subst e
   have:lenN ls j ≠ l:=by rw [lenN_of h];omega
   simp [this]
 · by_cases h0:lenN ls j = 0
   · rw [if_pos h0,if_pos h0]
   · rw [if_neg h0,if_neg h0]
     by_cases hc:lenN ls j < l ∨ (lenN ls j = l ∧ j < i)
     · rw [if_pos (by omega),if_pos hc]
     · rw [if_neg (by omega),if_neg hc]
theorem codP_next (ls:List Int) (l:Nat):tab ls.length (codP ls l ls.length) = tab ls.length (codP ls (l + 1) 0):=by
 refine tab_congr fun j hj => ?_
 unfold codP
 by_cases h0:lenN ls j = 0
 · rw [if_pos h0,if_pos h0]
 · rw [if_neg h0,if_neg h0]
   by_cases hc:lenN ls j < l ∨ (lenN ls j = l ∧ j < ls.length)
   · rw [if_pos hc,if_pos (by omega)]
   · rw [if_neg hc,if_neg (by omega)]
def bookC (cnt fst:List Int) (v cv lv:Value):Array Value:=(cnt.map (Value.int .i64) ++ (fst.map (Value.int .u64) ++ [v,cv,lv])).toArray
section
variable {cnt fst:List Int} {v cv lv:Value}
theorem bookC_cnt (hc:cnt.length = 16) {i:Nat} {x:Int} (h:cnt[i]? = some x):(bookC cnt fst v cv lv)[i]? = some (.int .i64 x):=by
 have hi:i < 16:=by rw [← hc];exact (List.getElem?_eq_some_iff.1 h).1
 simp only [bookC,List.getElem?_toArray]
 rw [List.getElem?_append_left (by simp;omega),List.getElem?_map,h];rfl
theorem bookC_fst (hc:cnt.length = 16) {i:Nat} {x:Int} (h:fst[i]? = some x):(bookC cnt fst v cv lv)[16 + i]? = some (.int .u64 x):=by
 have hi:i < fst.length:=(List.getElem?_eq_some_iff.1 h).1
 simp only [bookC,List.getElem?_toArray]
 rw [List.getElem?_append_right (by simp;omega),List.getElem?_append_left (by simp;omega),List.length_map,hc,List.getElem?_map,show 16 + i - 16 = i by omega,h];rfl
theorem bookC_tail (hc:cnt.length = 16) (hf:fst.length = 16):(bookC cnt fst v cv lv)[32]? = some v ∧ (bookC cnt fst v cv lv)[33]? = some cv ∧ (bookC cnt fst v cv lv)[34]? = some lv:=by
 simp only [bookC,List.getElem?_toArray]
 refine ⟨?_, ?_, ?_⟩ <;> rw [List.getElem?_append_right (by simp;omega),List.getElem?_append_right (by simp;omega)] <;> simp [hc,hf]
theorem bookC_setCnt (hc:cnt.length = 16) (i:Nat) (hi:i < 16) (x:Int):(bookC cnt fst v cv lv).setIfInBounds i (.int .i64 x) = bookC (cnt.set i x) fst v cv lv:=by
 simp only [bookC,List.setIfInBounds_toArray]
 rw [List.set_append_left _ _ (by simp;omega),List.map_set]
theorem bookC_setFst (hc:cnt.length = 16) (hf:fst.length = 16) (i:Nat) (hi:i < 16) (x:Int):(bookC cnt fst v cv lv).setIfInBounds (16 + i) (.int .u64 x) = bookC cnt (fst.set i x) v cv lv:=by
 simp only [bookC,List.setIfInBounds_toArray]
 rw [List.set_append_right _ _ (by simp;omega),List.set_append_left _ _ (by simp;omega),List.length_map,hc,show 16 + i - 16 = i by omega,List.map_set]
theorem bookC_setSym (hc:cnt.length = 16) (hf:fst.length = 16) (u:Value):(bookC cnt fst v cv lv).setIfInBounds 32 u = bookC cnt fst u cv lv:=by
 simp only [bookC,List.setIfInBounds_toArray]
 rw [List.set_append_right _ _ (by simp;omega),List.set_append_right _ _ (by simp;omega)]
 simp [hc,hf]
end
theorem bookC_zero (v cv lv:Value):bookC (tab 16 fun _ => 0) (tab 16 fun _ => 0) v cv lv = #[.int .i64 0,.int .i64 0,.int .i64 0,.int .i64 0,.int .i64 0,.int .i64 0,.int .i64 0,.int .i64 0,.int .i64 0,.int .i64 0,.int .i64 0,.int .i64 0,.int .i64 0,.int .i64 0,.int .i64 0,.int .i64 0,
 .int .u64 0,.int .u64 0,.int .u64 0,.int .u64 0,.int .u64 0,.int .u64 0,.int .u64 0,.int .u64 0,.int .u64 0,.int .u64 0,.int .u64 0,.int .u64 0,.int .u64 0,.int .u64 0,.int .u64 0,.int .u64 0,v,cv,lv]:=rfl
theorem alphaB_at {ws:List Int} (h:alphaB ws = true):ws.length ≤ 512 ∧ ∀ x ∈ ws,x ≤ 1099511627776:=by
 unfold alphaB at h
 simp only [Bool.and_eq_true,decide_eq_true_eq,Bool.not_eq_true'] at h
 refine ⟨h.1,fun x hx => ?_⟩
 have:=List.any_eq_false.1 h.2 x hx
 unfold heavyB at this
 simpa using this
def digitsF:Nat → Nat → List Nat
 | 0,_ => []
 | f + 1,n => if n = 0 then [] else (n - 1) % 2 :: digitsF f ((n - 1) / 2)
def digitsL (n:Nat):List Nat:=digitsF n n
def numL:List Nat → Nat
 | [] => 0
 | x :: d => x + 1 + 2 * numL d
theorem digitsF_any:∀ {f n:Nat},n ≤ f → digitsF f n = digitsL n:=by
 have key:∀ (f g n:Nat),n ≤ f → n ≤ g → digitsF f n = digitsF g n:=by
  intro f
  induction f with
  | zero =>
    intro g n h1 _
    obtain rfl:n = 0:=by omega
    cases g with
    | zero => rfl
    | succ g => rw [digitsF,digitsF,if_pos rfl]
  | succ f ih =>
    intro g n h1 h2
    by_cases h0:n = 0
    · subst h0
      cases g with
      | zero => rw [digitsF,digitsF,if_pos rfl]
      | succ g => rw [digitsF,digitsF,if_pos rfl,if_pos rfl]
    · cases g with
      | zero => omega
      | succ g => rw [digitsF,digitsF,if_neg h0,if_neg h0,ih g _ (by omega) (by omega)]
 intro f n h
 exact key f n n h (Nat.le_refl n)
theorem digitsL_zero:digitsL 0 = []:=rfl
theorem digitsL_pos {n:Nat} (h:0 < n):digitsL n = (n - 1) % 2 :: digitsL ((n - 1) / 2):=by
 obtain ⟨m,rfl⟩:∃ m,n = m + 1:=⟨n - 1,by omega⟩
 show digitsF (m + 1) (m + 1) = _
 rw [digitsF,if_neg (by omega),digitsF_any (by omega)]
theorem digitsL_lt:∀ (f:Nat) {n:Nat},n ≤ f → ∀ x ∈ digitsL n,x < 2:=by
 intro f
 induction f with
 | zero =>
   intro n h x hx
   obtain rfl:n = 0:=by omega
   simp [digitsL_zero] at hx
 | succ f ih =>
   intro n h x hx
   rcases Nat.eq_zero_or_pos n with rfl | hp
   · simp [digitsL_zero] at hx
   · rw [digitsL_pos hp] at hx
     rcases List.mem_cons.1 hx with rfl | hx
     · omega
     · exact ih (by omega) x hx
theorem num_digits:∀ (f:Nat) {n:Nat},n ≤ f → numL (digitsL n) = n:=by
 intro f
 induction f with
 | zero =>
   intro n h
   obtain rfl:n = 0:=by omega
   rfl
 | succ f ih =>
   intro n h
   rcases Nat.eq_zero_or_pos n with rfl | hp
   · rfl
   · rw [digitsL_pos hp,numL,ih (by omega)];omega
theorem digits_num {d:List Nat} (h:∀ x ∈ d,x < 2):digitsL (numL d) = d:=by
 induction d with
 | nil => rfl
 | cons x d ih =>
   have hx:=h x (by simp)
   rw [numL,digitsL_pos (by omega),show (x + 1 + 2 * numL d - 1) % 2 = x by omega,show (x + 1 + 2 * numL d - 1) / 2 = numL d by omega,ih (fun y hy => h y (List.mem_cons_of_mem _ hy))]
def encZ:Nat → List Nat → List Nat
 | n,[] => digitsL n ++ [257]
 | n,c :: s => if c = 0 then encZ (n + 1) s else digitsL n ++ (c + 1) :: encZ 0 s
theorem encZ_rep (n:Nat):∀ (m:Nat) (s:List Nat),encZ m (List.replicate n 0 ++ s) = encZ (m + n) s:=by
 induction n with
 | zero => intro m s;rfl
 | succ n ih =>
   intro m s
   rw [List.replicate_succ,List.cons_append,encZ,if_pos rfl,ih,Nat.add_assoc,Nat.add_comm 1]
def decZ:List Nat → List Nat → List Nat → Option (List Nat × List Nat)
 | _,_,[] => none
 | out,d,x :: l =>
   if x < 2 then decZ out (d ++ [x]) l
   else if x = 257 then some (out ++ List.replicate (numL d) 0,l)
   else if 257 < x then none
   else decZ (out ++ List.replicate (numL d) 0 ++ [x - 1]) [] l
theorem decZ_digits {d:List Nat} (h:∀ x ∈ d,x < 2):∀ (out e l:List Nat),decZ out e (d ++ l) = decZ out (e ++ d) l:=by
 induction d with
 | nil => intro out e l;rw [List.nil_append,List.append_nil]
 | cons x d ih =>
   intro out e l
   rw [List.cons_append,decZ,if_pos (h x (by simp)),ih (fun y hy => h y (List.mem_cons_of_mem _ hy)),List.append_assoc];rfl
theorem dec_enc {s:List Nat} (hs:∀ c ∈ s,c < 256):∀ (out:List Nat) (n:Nat) (r:List Nat),decZ out [] (encZ n s ++ r) = some (out ++ List.replicate n 0 ++ s,r):=by
 induction s with
 | nil =>
   intro out n r
   rw [encZ,List.append_assoc,decZ_digits (digitsL_lt n (Nat.le_refl n)),List.nil_append,List.singleton_append,decZ,if_neg (by decide),if_pos rfl,num_digits n (Nat.le_refl n),List.append_nil]
 | cons c s ih =>
   intro out n r
   have hc:=hs c (by simp)
   have ih:=ih (fun x hx => hs x (List.mem_cons_of_mem _ hx))
   rw [encZ]
   by_cases h0:c = 0
   · subst h0
     rw [if_pos rfl,ih,List.replicate_succ',List.append_assoc,List.append_assoc,List.append_assoc];rfl
   · rw [if_neg h0,List.append_assoc,decZ_digits (digitsL_lt n (Nat.le_refl n)),List.nil_append,List.cons_append,decZ,if_neg (by omega),if_neg (by omega),if_neg (by omega),num_digits n (Nat.le_refl n),ih,Nat.add_sub_cancel,List.replicate_zero,List.append_nil,List.append_assoc];rfl
theorem enc_dec:∀ {l out d t r:List Nat},decZ out d l = some (t,r) → (∀ x ∈ d,x < 2) → ∃ s,t = out ++ s ∧ (∀ c ∈ s,c < 256) ∧ d ++ l = encZ 0 s ++ r:=by
 intro l
 induction l with
 | nil => intro out d t r h _;cases h
 | cons x l ih =>
   intro out d t r h hd
   rw [decZ] at h
   by_cases h2:x < 2
   · rw [if_pos h2] at h
     obtain ⟨s,h3,h4,h5⟩:=ih h (fun y hy => by
      rcases List.mem_append.1 hy with hy | hy
      · exact hd y hy
      · rw [List.mem_singleton.1 hy];exact h2)
     exact ⟨s,h3,h4,by rw [← h5,List.append_assoc];rfl⟩
   · rw [if_neg h2] at h
     by_cases h257:x = 257
     · rw [if_pos h257] at h
       cases h
       subst h257
       refine ⟨List.replicate (numL d) 0,rfl,fun c hc => by rw [(List.mem_replicate.1 hc).2];decide, ?_⟩
       have:=encZ_rep (numL d) 0 []
       rw [List.append_nil] at this
       rw [this,Nat.zero_add,encZ,digits_num hd,List.append_assoc];rfl
     · rw [if_neg h257] at h
       by_cases h3:257 < x
       · rw [if_pos h3] at h;cases h
       · rw [if_neg h3] at h
         obtain ⟨s,h4,h5,h6⟩:=ih h (fun y hy => by simp at hy)
         refine ⟨List.replicate (numL d) 0 ++ (x - 1) :: s,by rw [h4];simp,fun c hc => ?_, ?_⟩
         · rcases List.mem_append.1 hc with hc | hc
           · rw [(List.mem_replicate.1 hc).2];decide
           · rcases List.mem_cons.1 hc with rfl | hc
             · omega
             · exact h5 c hc
         · rw [List.nil_append] at h6
           rw [encZ_rep,Nat.zero_add,encZ,if_neg (by omega),digits_num hd,Nat.sub_add_cancel (by omega),h6];simp
theorem encZ_sym:∀ {s:List Nat} (n:Nat),(∀ c ∈ s,c < 256) → ∀ x ∈ encZ n s,x ≤ 257:=by
 intro s
 induction s with
 | nil =>
   intro n _ x hx
   rw [encZ] at hx
   rcases List.mem_append.1 hx with hx | hx
   · have:=digitsL_lt n (Nat.le_refl n) x hx;omega
   · rw [List.mem_singleton.1 hx];decide
 | cons c s ih =>
   intro n h x hx
   have hc:=h c (by simp)
   have ih:=fun m => ih m (fun y hy => h y (List.mem_cons_of_mem _ hy))
   rw [encZ] at hx
   split at hx
   · exact ih _ x hx
   · rcases List.mem_append.1 hx with hx | hx
     · have:=digitsL_lt n (Nat.le_refl n) x hx;omega
     · rcases List.mem_cons.1 hx with rfl | hx
       · omega
       · exact ih _ x hx
def liftL (row:List Nat) (i:Nat):List Nat:=row.getD i 0 :: (row.take i ++ row.drop (i + 1))
def idxL (row:List Nat) (c:Nat):Nat:=row.findIdx (fun x => x == c)
structure RowOK (row:List Nat):Prop where
 len:row.length = 256
 nodup:row.Nodup
 lt:∀ c ∈ row,c < 256
theorem nodup_le:∀ (n:Nat) {l:List Nat},l.Nodup → (∀ x ∈ l,x < n) → l.length ≤ n:=by
 intro n
 induction n with
 | zero =>
   intro l _ h
   cases l with
   | nil => exact Nat.le_refl 0
   | cons x l => exact absurd (h x (by simp)) (by omega)
 | succ n ih =>
   intro l hn h
   by_cases hm:n ∈ l
   · have h1:=ih (hn.erase n) (fun x hx => by
      have hx2:=(List.Nodup.mem_erase_iff hn).1 hx
      have:=h x hx2.2
      have:=hx2.1
      omega)
     rw [List.length_erase_of_mem hm] at h1
     omega
   · have:=ih hn (fun x hx => by
      have:=h x hx
      have:x ≠ n:=fun e => hm (e ▸ hx)
      omega)
     omega
theorem nodup_full {n:Nat} {l:List Nat} (hn:l.Nodup) (h:∀ x ∈ l,x < n) (hl:l.length = n) {c:Nat} (hc:c < n):c ∈ l:=by
 by_cases hm:c ∈ l
 · exact hm
 · have h1:=nodup_le n (l:=c :: l) (List.nodup_cons.2 ⟨hm,hn⟩) (fun x hx => by
    rcases List.mem_cons.1 hx with rfl | hx
    · exact hc
    · exact h x hx)
   rw [List.length_cons] at h1
   omega
theorem RowOK.has {row:List Nat} (h:RowOK row) (c:Nat) (hc:c < 256):c ∈ row:=nodup_full h.nodup h.lt h.len hc
theorem liftL_perm {row:List Nat} {i:Nat} (h:i < row.length):(liftL row i).Perm row:=by
 have e:row = row.take i ++ row[i] :: row.drop (i + 1):=by rw [← List.drop_eq_getElem_cons h,List.take_append_drop]
 unfold liftL
 rw [List.getD_eq_getElem?_getD,List.getElem?_eq_getElem h]
 conv => rhs;rw [e]
 exact List.perm_middle.symm
theorem RowOK.lift {row:List Nat} (h:RowOK row) {i:Nat} (hi:i < 256):RowOK (liftL row i):=by
 have hp:=liftL_perm (row:=row) (i:=i) (by rw [h.len];exact hi)
 exact ⟨by rw [hp.length_eq];exact h.len,hp.nodup_iff.2 h.nodup,fun c hc => h.lt c (hp.mem_iff.1 hc)⟩
theorem idxL_lt {row:List Nat} (h:RowOK row) {c:Nat} (hc:c < 256):idxL row c < 256:=by
 rw [← h.len]
 exact List.findIdx_lt_length_of_exists ⟨c,h.has c hc,by simp⟩
theorem idxL_get {row:List Nat} (h:RowOK row) {c:Nat} (hc:c < 256):row.getD (idxL row c) 0 = c:=by
 have hl:idxL row c < row.length:=by rw [h.len];exact idxL_lt h hc
 have:=List.findIdx_getElem (xs:=row) (p:=fun x => x == c) (w:=hl)
 rw [List.getD_eq_getElem?_getD,List.getElem?_eq_getElem hl]
 exact eq_of_beq this
def toL (row:List Nat):List Nat → List Nat × List Nat
 | [] => ([],row)
 | c :: s => let r:=toL (liftL row (idxL row c)) s;(idxL row c :: r.1,r.2)
def fromL (row:List Nat):List Nat → List Nat × List Nat
 | [] => ([],row)
 | i :: s => let r:=fromL (liftL row i) s;(row.getD i 0 :: r.1,r.2)
theorem from_to {row:List Nat} (h:RowOK row) {s:List Nat} (hs:∀ c ∈ s,c < 256):fromL row (toL row s).1 = (s,(toL row s).2):=by
 induction s generalizing row with
 | nil => rfl
 | cons c s ih =>
   have hc:=hs c (by simp)
   have:=ih (h.lift (idxL_lt h hc)) (fun x hx => hs x (List.mem_cons_of_mem _ hx))
   show ((row.getD (idxL row c) 0 :: (fromL (liftL row (idxL row c)) (toL (liftL row (idxL row c)) s).1).1),_) = _
   rw [this,idxL_get h hc];rfl
def freshL:List Nat:=List.range 256
theorem fresh_ok:RowOK freshL:=⟨by simp [freshL],List.nodup_range,fun c hc => List.mem_range.1 hc⟩
def TAdd2P (p:Nat) (row:Option Nat) (l0:List Bool) (ls:List Int) (w:World) (e:Ending) (w':World):Prop:=e = .returned (.tuple #[]) ∧ ∃ row',Wr w' p row' (l0 ++ tabBits ls) ∧ rowNew w row row' ∧ Fr (wS p row) w w'
theorem rowNew.trans {w wr:World} {row r1 r2:Option Nat} (h:rowNew w row r1) (k:rowNew wr r1 r2) (hw:w.heap.size ≤ wr.heap.size):rowNew w row r2:=by
 rcases k with rfl | ⟨g,rfl,hg⟩
 · exact h
 · exact .inr ⟨g,rfl,by omega⟩
theorem frNew {w wr w':World} {p:Nat} {row r1:Option Nat} (h:Fr (wS p row) w wr) (hr:rowNew w row r1) (k:Fr (wS p r1) wr w'):Fr (wS p row) w w' :=
 h.trans k fun g hg => by
  rcases hg with rfl | hg
  · exact .inl (.inl rfl)
  · rcases hr with rfl | ⟨g',rfl,hg'⟩
    · exact .inl (.inr hg)
    · cases hg;exact .inr hg'
set_option maxHeartbeats 4000000 in
theorem tadd2_any (p:Nat) (row:Option Nat) (l0:List Bool) (A:Option Addr) (ls:List Int) (c:Nat) (w:World) (hW:Wr w p row l0) (h:Rd w w.heap.size A (ls.map (.int .i64))) (hA0:∀ a,A = some a → a.block ≠ p ∧ row ≠ some a.block) (hok:okL ls = true) (hne:ls.length ≠ 0) (hl0:l0.length ≤ 1048576) :
 Calls Tryz.prog 102 #[.pointer (some ⟨p,0,none⟩),.slice A ls.length c] w (TAdd2P p row l0 ls w):=by
 have H:=hide h
 obtain ⟨h512,hr⟩:=okL_nat hok
 have HRg:=hide hr
 have hT:=tabBits_length_le hok
 obtain ⟨b0,o0,x0,hA,hb0,hx0,hc0⟩:=h.int (show 0 < ls.length by omega)
 subst hA
 obtain ⟨u0,u1⟩:=hr x0 (List.mem_of_getElem? hx0)
 obtain ⟨x0,rfl⟩:=Int.eq_ofNat_of_zero_le u0
 have hbits:tabBits ls = natBits x0 4 ++ tabT x0 (ls.map Int.toNat):=by
  have:=dropN hx0
  rw [List.drop_zero] at this
  have e:(ls.map Int.toNat).headD 0 = x0:=by rw [this];rfl
  unfold tabBits tableL
  rw [e]
 obtain ⟨F,hF⟩:∃ F,F = l0 ++ tabBits ls:=⟨_,rfl⟩
 have hFl:F.length ≤ 1100000:=by rw [hF,List.length_append];omega
 have HFe:=hide hF
 have HBits:=hide hbits
 have hc0':w.cell? ⟨b0,o0,none⟩ = some (.int .i64 x0):=hc0
 have ad:=add_i p row l0 x0 4 w (by omega) (by decide) (by omega) (by decide) hW (by simp;omega)
 have HAd:=hide ad
 clear h hok hr hT hx0 hc0 hbits hF ad hW
 go_enter Tryz.func102,Tryz.ntmps102
 go_wp2_with (go_at_call 103;refine (Calls.mono HAd.out ?_);rintro e w1 ⟨rfl,row1,hwr1,hrn1,hfr1⟩)
 have hb0w:=hb0
 have hne0:=hA0 _ rfl
 have HN0:=hide hne0
 have hrow1:=hrn1
 have hbe1:=hfr1
 clear hne0 hA0
 rw [Int.toNat_natCast,show (4:Int).toNat = 4 from rfl] at hwr1
 have HWr1:=hide hwr1
 clear hwr1 hrn1 hfr1
 go_loopw [4,16] (fun nw i wr => ∃ (k M:Nat) (rw:Option Nat) (l:List Bool),k ≤ ls.length ∧ i = .int .i64 k ∧ nw = .int .i64 M ∧ M ≤ 15 ∧ Hid (Wr wr p rw l) ∧ rowNew w row rw ∧ Hid (l ++ tabT M ((ls.map Int.toNat).drop k) = F) ∧ Fr (wS p row) w wr) (fun _ i _ => ls.length - (intOf i).toNat)
 case atStart => exact ⟨0,x0,row1,_,by omega,rfl,rfl,by omega,HWr1,hrow1,hide (by rw [List.drop_zero,HFe.out,HBits.out,List.append_assoc]),hbe1⟩
 case round =>
  clear HWr1 hrow1
  obtain ⟨k,M,rw1,l,hk,rfl,rfl,hM,hwr,hrw,hsum,hbe⟩:=hrel
  by_cases hlt:k < ls.length
  · obtain ⟨b,o,x,hAb,hbb,hx,hcx⟩:=H.out.int hlt
    simp only [Option.some.injEq,Addr.mk.injEq,and_true] at hAb
    obtain ⟨rfl,rfl⟩:=hAb
    obtain ⟨v0,v1⟩:=HRg.out x (List.mem_of_getElem? hx)
    obtain ⟨x,rfl⟩:=Int.eq_ofNat_of_zero_le v0
    have hc:=hbe.cell (p:=⟨b0,o0 + k,none⟩) (fun hs => hs.elim HN0.out.1 HN0.out.2) hcx
    have hs:=hsum.out
    rw [dropN hx,tabT,Int.toNat_natCast,← List.append_assoc] at hs
    obtain ⟨G,hG⟩:∃ G,G = l ++ moveT M x:=⟨_,rfl⟩
    rw [← hG] at hs
    have hGl:G.length ≤ 1100000:=by
     have:=congrArg List.length hs
     rw [List.length_append] at this;omega
    have HG:=hide hG
    have HS:=hide hs
    have HK:=hide (And.intro hwr.out (And.intro hrw hbe))
    clear hs hsum hx hcx hG hwr hrw hbe
    go_wp2_with fail
    go_loopw [4] (fun nw wx => ∃ (m:Nat) (rw:Option Nat) (l:List Bool),nw = .int .i64 m ∧ m ≤ 15 ∧ (m ≤ x ∨ m = M) ∧ Hid (Wr wx p rw l) ∧ rowNew w row rw ∧ Hid (l ++ moveT m x = G) ∧ Fr (wS p row) w wx) (fun nw _ => x - (intOf nw).toNat)
    case atStart => exact ⟨M,rw1,l,rfl,hM,.inr rfl,HK.out.1,HK.out.2.1,HG.out.symm,HK.out.2.2⟩
    case round =>
     clear HG HK hc
     obtain ⟨m,rw2,l2,rfl,hm,hmx,hwr,hrw,hsum,hbe⟩:=hrel
     have hl2:l2.length ≤ 1100000:=by
      have:=congrArg List.length hsum.out
      rw [List.length_append] at this;omega
     by_cases hlt2:m < x
     · have hmv:=hsum.out
       rw [moveT_up hlt2] at hmv
       have HMv:=hide hmv
       have ad:=add_i p rw2 l2 2 2 wr (by decide) (by decide) (by decide) (by decide) hwr.out (by simp;omega)
       have HAd2:=hide ad
       clear ad hmv hsum hwr
       go_wp2_with (go_at_call 103;refine (Calls.mono HAd2.out ?_);rintro e w3 ⟨rfl,row3,hwr3,hrn3,hfr3⟩)
       have hrow3:=hrw.trans hrn3 hbe.size
       have hbe3:=frNew hbe hrw hfr3
       go_roundw
       case rel => exact ⟨m + 1,row3,_,by go_num,by omega,.inl (by omega),hwr3,hrow3,hide (by rw [show natBits (2:Int).toNat (2:Int).toNat = [true,false] from rfl,List.append_assoc];exact HMv.out),hbe3⟩
       case measure => simp [intOf];omega
     · have HK:=hide (And.intro hwr.out (And.intro hrw (And.intro hbe hsum.out)))
       clear hwr hrw hbe hsum
       go_wp2_with fail
       go_loopw [4] (fun nw wx => ∃ (m:Nat) (rw:Option Nat) (l:List Bool),nw = .int .i64 m ∧ m ≤ 15 ∧ x ≤ m ∧ Hid (Wr wx p rw l) ∧ rowNew w row rw ∧ Hid (l ++ moveT m x = G) ∧ Fr (wS p row) w wx) (fun nw _ => (intOf nw).toNat - x)
       case atStart => exact ⟨m,rw2,l2,rfl,hm,by omega,HK.out.1,HK.out.2.1,HK.out.2.2.2,HK.out.2.2.1⟩
       case round =>
        clear HK
        obtain ⟨m,rw2,l2,rfl,hm,hmx,hwr,hrw,hsum,hbe⟩:=hrel
        have hl2:l2.length ≤ 1100000:=by
         have:=congrArg List.length hsum.out
         rw [List.length_append] at this;omega
        by_cases hlt3:x < m
        · have hmv:=hsum.out
          rw [moveT_down hlt3] at hmv
          have HMv:=hide hmv
          have ad:=add_i p rw2 l2 3 2 wr (by decide) (by decide) (by decide) (by decide) hwr.out (by simp;omega)
          have HAd2:=hide ad
          clear ad hmv hsum hwr
          go_wp2_with (go_at_call 103;refine (Calls.mono HAd2.out ?_);rintro e w3 ⟨rfl,row3,hwr3,hrn3,hfr3⟩)
          have hrow3:=hrw.trans hrn3 hbe.size
          have hbe3:=frNew hbe hrw hfr3
          go_roundw
          case rel => exact ⟨m - 1,row3,_,v_int (by omega),by omega,by omega,hwr3,hrow3,hide (by rw [show natBits (3:Int).toNat (2:Int).toNat = [true,true] from rfl,List.append_assoc];exact HMv.out),hbe3⟩
          case measure => simp [intOf];omega
        · obtain rfl:m = x:=by omega
          have hmv:=hsum.out
          rw [moveT_same] at hmv
          have HMv:=hide hmv
          have ad:=add_i p rw2 l2 0 1 wr (by decide) (by decide) (by decide) (by decide) hwr.out (by simp;omega)
          have HAd2:=hide ad
          clear ad hmv hsum hwr
          go_wp2_with (go_at_call 103;refine (Calls.mono HAd2.out ?_);rintro e w3 ⟨rfl,row3,hwr3,hrn3,hfr3⟩)
          have hrow3:=hrw.trans hrn3 hbe.size
          have hbe3:=frNew hbe hrw hfr3
          go_roundw
          case rel => exact ⟨k + 1,m,row3,_,by omega,by go_num,rfl,hm,hwr3,hrow3,hide (by rw [show natBits (0:Int).toNat (1:Int).toNat = [false] from rfl,HMv.out];exact HS.out),hbe3⟩
          case measure => simp [intOf];omega
  · have hs:=hsum.out
    rw [List.drop_eq_nil_of_le (by simp;omega),tabT,List.append_nil] at hs
    have HS:=hide hs
    clear hs hsum
    go_wp2_with fail
    refine bodyPost_ret (results_none rfl _ _ _) rfl ?_
    exact ⟨rfl,rw1,by rw [← HFe.out,← HS.out];exact hwr.out,hrw,hbe⟩
def lexL:List Nat → List Nat → Bool
 | _,[] => false
 | [],_ :: _ => true
 | a :: x,b :: y => if a < b then true else if b < a then false else lexL x y
theorem lexL_cons (a b:Nat) (x y:List Nat):lexL (a :: x) (b :: y) = true ↔ a < b ∨ (a = b ∧ lexL x y = true):=by
 rw [lexL]
 by_cases h1:a < b
 · rw [if_pos h1];simp [h1]
 · rw [if_neg h1]
   by_cases h2:b < a
   · rw [if_pos h2]
     constructor
     · intro h;cases h
     · rintro (h | ⟨h,_⟩) <;> omega
   · rw [if_neg h2]
     have:a = b:=by omega
     subst this
     simp
theorem lexL_irrefl (x:List Nat):lexL x x = false:=by
 induction x with
 | nil => rfl
 | cons a x ih =>
   rw [Bool.eq_false_iff]
   intro h
   rcases (lexL_cons a a x x).1 h with h | ⟨_,h⟩
   · omega
   · rw [ih] at h;cases h
theorem lexL_trans:∀ {x y z:List Nat},lexL x y = true → lexL y z = true → lexL x z = true:=by
 intro x
 induction x with
 | nil =>
   intro y z h1 h2
   cases y with
   | nil => cases h1
   | cons b y =>
     cases z with
     | nil => cases h2
     | cons c z => rfl
 | cons a x ih =>
   intro y z h1 h2
   cases y with
   | nil => cases h1
   | cons b y =>
     cases z with
     | nil => cases h2
     | cons c z =>
       rcases (lexL_cons _ _ _ _).1 h1 with h | ⟨rfl,h⟩
       · rcases (lexL_cons _ _ _ _).1 h2 with g | ⟨rfl,g⟩
         · exact (lexL_cons _ _ _ _).2 (.inl (by omega))
         · exact (lexL_cons _ _ _ _).2 (.inl h)
       · rcases (lexL_cons _ _ _ _).1 h2 with g | ⟨rfl,g⟩
         · exact (lexL_cons _ _ _ _).2 (.inl g)
         · exact (lexL_cons _ _ _ _).2 (.inr ⟨rfl,ih h g⟩)
theorem lexL_total:∀ {x y:List Nat},x ≠ y → lexL x y = true ∨ lexL y x = true:=by
 intro x
 induction x with
 | nil =>
   intro y h
   cases y with
   | nil => exact absurd rfl h
   | cons b y => exact .inl rfl
 | cons a x ih =>
   intro y h
   cases y with
   | nil => exact .inr rfl
   | cons b y =>
     rcases Nat.lt_trichotomy a b with g | rfl | g
     · exact .inl ((lexL_cons _ _ _ _).2 (.inl g))
     · rcases ih (y:=y) (fun e => h (by rw [e])) with g | g
       · exact .inl ((lexL_cons _ _ _ _).2 (.inr ⟨rfl,g⟩))
       · exact .inr ((lexL_cons _ _ _ _).2 (.inr ⟨rfl,g⟩))
     · exact .inr ((lexL_cons _ _ _ _).2 (.inl g))
theorem lexL_asymm {x y:List Nat} (h:lexL x y = true):lexL y x = false:=by
 rw [Bool.eq_false_iff]
 intro g
 have:=lexL_trans h g
 rw [lexL_irrefl] at this
 cases this
def sufLt (s:List Nat) (a b:Nat):Bool:=lexL (s.drop a) (s.drop b)
structure IsEnds (s es:List Nat):Prop where
 perm:es.Perm (List.range s.length)
 sorted:es.Pairwise fun a b => sufLt s a b = true
theorem drop_inj {s:List Nat} {a b:Nat} (ha:a ≤ s.length) (hb:b ≤ s.length) (h:s.drop a = s.drop b):a = b:=by
 have:=congrArg List.length h
 rw [List.length_drop,List.length_drop] at this
 omega
theorem sufLt_total {s:List Nat} {a b:Nat} (ha:a ≤ s.length) (hb:b ≤ s.length) (h:a ≠ b):sufLt s a b = true ∨ sufLt s b a = true:=lexL_total fun e => h (drop_inj ha hb e)
theorem IsEnds.mem {s es:List Nat} (h:IsEnds s es) {k:Nat}:k ∈ es ↔ k < s.length:=by rw [h.perm.mem_iff,List.mem_range]
theorem IsEnds.len {s es:List Nat} (h:IsEnds s es):es.length = s.length:=by rw [h.perm.length_eq,List.length_range]
theorem IsEnds.unique {s es es':List Nat} (h:IsEnds s es) (h':IsEnds s es'):es = es':=by
 refine List.Perm.eq_of_pairwise (le:=fun a b => sufLt s a b = true) ?_ h.sorted h'.sorted (h.perm.trans h'.perm.symm)
 intro a b _ _ h1 h2
 rw [show sufLt s b a = false from lexL_asymm h1] at h2
 cases h2
def rk (s:List Nat) (k:Nat):Nat:=(List.range (s.length + 1)).countP fun m => sufLt s m k
theorem countP_less {α:Type} {p q:α → Bool}:∀ {l:List α},(∀ x ∈ l,p x = true → q x = true) → (∃ x ∈ l,q x = true ∧ p x = false) → l.countP p < l.countP q:=by
 intro l
 induction l with
 | nil => rintro _ ⟨x,hx,_⟩;simp at hx
 | cons a l ih =>
   rintro hs ⟨x,hx,hq,hp⟩
   rw [List.countP_cons,List.countP_cons]
   have hle:l.countP p ≤ l.countP q:=List.countP_mono_left (fun y hy => hs y (List.mem_cons_of_mem _ hy))
   rcases List.mem_cons.1 hx with rfl | hx
   · rw [hq,hp];simp;omega
   · have:=ih (fun y hy => hs y (List.mem_cons_of_mem _ hy)) ⟨x,hx,hq,hp⟩
     have ha:=hs a (by simp)
     by_cases h:p a = true
     · rw [h,ha h];simp;omega
     · rw [if_neg h];split <;> omega
theorem rk_mono {s:List Nat} {a b:Nat} (ha:a ≤ s.length) (h:sufLt s a b = true):rk s a < rk s b :=
 countP_less (fun m _ hm => lexL_trans hm h) ⟨a,List.mem_range.2 (by omega),h,lexL_irrefl _⟩
theorem rk_inj {s:List Nat} {a b:Nat} (ha:a ≤ s.length) (hb:b ≤ s.length) (h:rk s a = rk s b):a = b:=by
 by_cases e:a = b
 · exact e
 · rcases sufLt_total ha hb e with g | g
   · have:=rk_mono ha g;omega
   · have:=rk_mono hb g;omega
theorem sufLt_end {s:List Nat} {k:Nat} (h:k < s.length):sufLt s s.length k = true:=by
 unfold sufLt
 rw [List.drop_length,List.drop_eq_getElem_cons h];rfl
theorem sufLt_end' {s:List Nat} {k:Nat}:sufLt s k s.length = false:=by
 unfold sufLt
 rw [List.drop_length]
 cases s.drop k <;> rfl
theorem rk_len (s:List Nat):rk s s.length = 0:=by
 unfold rk
 rw [List.countP_eq_zero]
 intro m _
 rw [sufLt_end']
 simp
theorem countP_sorted {α:Type} {lt:α → α → Bool} (hirr:∀ a,lt a a = false) (has:∀ a b,lt a b = true → lt b a = false):∀ {l:List α},l.Pairwise (fun a b => lt a b = true) → ∀ {i:Nat} (h:i < l.length),l.countP (fun m => lt m l[i]) = i:=by
 intro l
 induction l with
 | nil => intro _ i h;simp at h
 | cons a l ih =>
   intro hp i h
   rw [List.pairwise_cons] at hp
   cases i with
   | zero =>
     rw [List.getElem_cons_zero,List.countP_eq_zero]
     intro m hm
     rcases List.mem_cons.1 hm with rfl | hm
     · rw [hirr];simp
     · rw [has _ _ (hp.1 m hm)];simp
   | succ i =>
     have hi:i < l.length:=by simpa using h
     rw [List.getElem_cons_succ,List.countP_cons,ih hp.2 hi,hp.1 _ (List.getElem_mem hi)];simp
def rowsL (s es:List Nat):List Nat:=s.length :: es
section
variable {s es:List Nat}
theorem rowsL_sorted (h:IsEnds s es):(rowsL s es).Pairwise fun a b => sufLt s a b = true:=by
 unfold rowsL
 rw [List.pairwise_cons]
 exact ⟨fun b hb => sufLt_end (h.mem.1 hb),h.sorted⟩
theorem rowsL_perm (h:IsEnds s es):(rowsL s es).Perm (List.range (s.length + 1)):=by
 unfold rowsL
 rw [List.range_succ]
 exact (List.Perm.cons _ h.perm).trans (List.perm_append_comm (l₁:=[s.length]))
theorem rowsL_len (h:IsEnds s es):(rowsL s es).length = s.length + 1:=by unfold rowsL;rw [List.length_cons,h.len]
theorem rowsL_rk (h:IsEnds s es) {r:Nat} (hr:r < (rowsL s es).length):rk s (rowsL s es)[r] = r:=by
 unfold rk
 rw [← (rowsL_perm h).countP_eq]
 exact countP_sorted (lt:=sufLt s) (fun a => lexL_irrefl _) (fun a b hab => lexL_asymm hab) (rowsL_sorted h) hr
theorem rowsL_mem (h:IsEnds s es) {k:Nat}:k ∈ rowsL s es ↔ k ≤ s.length:=by rw [(rowsL_perm h).mem_iff,List.mem_range];omega
theorem rk_le (h:IsEnds s es) {k:Nat} (hk:k ≤ s.length):rk s k ≤ s.length:=by
 obtain ⟨r,hr,he⟩:=List.getElem_of_mem ((rowsL_mem h).2 hk)
 have:=rowsL_rk h hr
 rw [he] at this
 rw [rowsL_len h] at hr
 omega
theorem rowsL_at (h:IsEnds s es) {k:Nat} (hk:k ≤ s.length) (hr:rk s k < (rowsL s es).length):(rowsL s es)[rk s k] = k:=by
 have h1:=rowsL_rk h hr
 exact rk_inj ((rowsL_mem h).1 (List.getElem_mem hr)) hk h1
def primL (s es:List Nat):Nat:=(rowsL s es).idxOf 0
def othersL (s es:List Nat):List Nat:=(rowsL s es).eraseIdx (primL s es)
def colL (s es:List Nat):List Nat:=(othersL s es).map fun k => s.getD (k - 1) 0
theorem prim_lt (h:IsEnds s es):primL s es < (rowsL s es).length:=List.idxOf_lt_length_of_mem ((rowsL_mem h).2 (Nat.zero_le _))
theorem prim_get (h:IsEnds s es):(rowsL s es)[primL s es]'(prim_lt h) = 0:=List.getElem_idxOf (prim_lt h)
theorem prim_rk (h:IsEnds s es):primL s es = rk s 0:=by
 have:=rowsL_rk h (prim_lt h)
 rw [prim_get h] at this
 exact this.symm
theorem othersL_len (h:IsEnds s es):(othersL s es).length = s.length:=by
 unfold othersL
 rw [List.length_eraseIdx,if_pos (prim_lt h),rowsL_len h];omega
theorem colL_len (h:IsEnds s es):(colL s es).length = s.length:=by unfold colL;rw [List.length_map,othersL_len h]
theorem othersL_sorted (h:IsEnds s es):(othersL s es).Pairwise fun a b => sufLt s a b = true:=(rowsL_sorted h).sublist (List.eraseIdx_sublist _ _)
theorem rows_split (h:IsEnds s es):(rowsL s es).Perm (0 :: othersL s es):=by
 unfold othersL
 have key:∀ (l:List Nat) (p:Nat) (hp:p < l.length),l[p] = 0 → l.Perm (0 :: l.eraseIdx p):=by
  intro l p hp hg
  have e:l = l.take p ++ 0 :: l.drop (p + 1):=by rw [← hg,← List.drop_eq_getElem_cons hp,List.take_append_drop]
  conv => lhs;rw [e]
  rw [List.eraseIdx_eq_take_drop_succ]
  exact List.perm_middle
 exact key _ _ (prim_lt h) (prim_get h)
theorem others_pos (h:IsEnds s es) {k:Nat} (hk:k ∈ othersL s es):1 ≤ k ∧ k ≤ s.length:=by
 have hn:(0 :: othersL s es).Nodup:=(rows_split h).nodup_iff.1 ((rowsL_perm h).nodup_iff.2 List.nodup_range)
 rw [List.nodup_cons] at hn
 have h1:k ∈ rowsL s es:=(rows_split h).mem_iff.2 (List.mem_cons_of_mem _ hk)
 have h2:=(rowsL_mem h).1 h1
 refine ⟨?_,h2⟩
 rcases Nat.eq_zero_or_pos k with rfl | g
 · exact absurd hk hn.1
 · exact g
theorem others_pred (h:IsEnds s es):((othersL s es).map fun k => k - 1).Perm (List.range s.length):=by
 have h1:(0 :: othersL s es).Perm (List.range (s.length + 1)):=(rows_split h).symm.trans (rowsL_perm h)
 rw [List.range_succ_eq_map] at h1
 have h2:=(List.perm_cons 0).1 h1
 have h3:=h2.map fun k => k - 1
 rw [List.map_map] at h3
 refine h3.trans ?_
 have:(List.range s.length).map ((fun k => k - 1) ∘ Nat.succ) = List.range s.length:=by
  conv => rhs;rw [← List.map_id (List.range s.length)]
  apply List.map_congr_left
  intro k _
  simp
 rw [this]
def atR (p r:Nat):Nat:=if p < r then r - 1 else r
theorem others_at (h:IsEnds s es) {r:Nat} (hr:r < (rowsL s es).length) (hne:r ≠ primL s es):(othersL s es)[atR (primL s es) r]? = some (rowsL s es)[r]:=by
 unfold othersL atR
 rw [List.getElem?_eraseIdx]
 by_cases g:primL s es < r
 · rw [if_pos g,if_neg (by omega),Nat.sub_add_cancel (by omega),List.getElem?_eq_getElem hr]
 · rw [if_neg g,if_pos (by omega),List.getElem?_eq_getElem hr]
end
def rowP (c:List Nat) (i:Nat):Nat:=1 + c.countP (fun y => decide (y < c.getD i 0)) + (c.take i).count (c.getD i 0)
theorem sufLt_step {s:List Nat} {a b:Nat} (ha:a < s.length) (hb:b < s.length):sufLt s a b = true ↔ s.getD a 0 < s.getD b 0 ∨ (s.getD a 0 = s.getD b 0 ∧ sufLt s (a + 1) (b + 1) = true):=by
 unfold sufLt
 rw [List.drop_eq_getElem_cons ha,List.drop_eq_getElem_cons hb,lexL_cons,List.getD_eq_getElem?_getD,List.getD_eq_getElem?_getD,List.getElem?_eq_getElem ha,List.getElem?_eq_getElem hb];rfl
theorem rowP_split (c:List Nat) {i:Nat} (hi:i < c.length):rowP c i = 1 + (c.take i).countP (fun y => decide (y ≤ c.getD i 0)) + (c.drop (i + 1)).countP (fun y => decide (y < c.getD i 0)):=by
 unfold rowP
 generalize hx:c.getD i 0 = x
 have hc:c[i] = x:=by rw [← hx,List.getD_eq_getElem?_getD,List.getElem?_eq_getElem hi];rfl
 have e:c = c.take i ++ x :: c.drop (i + 1):=by rw [← hc,← List.drop_eq_getElem_cons hi,List.take_append_drop]
 have h1:c.countP (fun y => decide (y < x)) = (c.take i).countP (fun y => decide (y < x)) + (c.drop (i + 1)).countP (fun y => decide (y < x)):=by
  conv => lhs;rw [e]
  rw [List.countP_append,List.countP_cons];simp
 have h2:∀ l:List Nat,l.countP (fun y => decide (y ≤ x)) = l.countP (fun y => decide (y < x)) + l.count x:=by
  intro l
  induction l with
  | nil => rfl
  | cons y l ih =>
    rw [List.countP_cons,List.countP_cons,List.count_cons,ih]
    rcases Nat.lt_trichotomy y x with g | g | g
    · simp [g,Nat.le_of_lt g,Nat.ne_of_lt g];omega
    · simp [g];omega
    · simp [Nat.not_le.2 g,Nat.not_lt.2 (Nat.le_of_lt g),Nat.ne_of_gt g]
 rw [h1,h2];omega
section
variable {s es:List Nat}
theorem col_get (i:Nat):(colL s es)[i]? = (othersL s es)[i]?.map fun k => s.getD (k - 1) 0:=by unfold colL;rw [List.getElem?_map]
theorem rowP_rk (h:IsEnds s es) {i k:Nat} (hk:(othersL s es)[i]? = some k):rowP (colL s es) i = rk s (k - 1):=by
 obtain ⟨hi,rfl⟩:=List.getElem?_eq_some_iff.1 hk
 have hic:i < (colL s es).length:=by rw [colL_len h,← othersL_len h];exact hi
 have hkp:=others_pos h (List.getElem_mem hi)
 have hx:(colL s es).getD i 0 = s.getD ((othersL s es)[i] - 1) 0:=by rw [List.getD_eq_getElem?_getD,col_get,hk];rfl
 rw [rowP_split _ hic,hx]
 unfold rk
 rw [List.range_succ,List.countP_append,List.countP_singleton,if_pos (sufLt_end (by omega)),← (others_pred h).countP_eq,List.countP_map]
 have e:othersL s es = (othersL s es).take i ++ (othersL s es)[i] :: (othersL s es).drop (i + 1):=by rw [← List.drop_eq_getElem_cons hi,List.take_append_drop]
 have hso:=othersL_sorted h
 have hpos:=fun q (hq:q ∈ othersL s es) => others_pos h hq
 generalize (othersL s es)[i] = k at *
 generalize hO:othersL s es = O at *
 have hcol:colL s es = O.map fun q => s.getD (q - 1) 0:=by unfold colL;rw [hO]
 have hmt:∀ q ∈ O.take i,q ∈ O:=fun q hq => List.mem_of_mem_take hq
 have hmd:∀ q ∈ O.drop (i + 1),q ∈ O:=fun q hq => List.mem_of_mem_drop hq
 rw [e,List.pairwise_append] at hso
 rw [hcol,← List.map_take,← List.map_drop,List.countP_map,List.countP_map]
 conv => rhs;rw [e,List.countP_append,List.countP_cons]
 have hkk:((fun m => sufLt s m (k - 1)) ∘ fun k => k - 1) k = false:=lexL_irrefl _
 rw [hkk]
 have h1:(O.take i).countP ((fun y => decide (y ≤ s.getD (k - 1) 0)) ∘ fun q => s.getD (q - 1) 0) = (O.take i).countP ((fun m => sufLt s m (k - 1)) ∘ fun k => k - 1):=by
  apply List.countP_congr
  intro q hq
  have hqp:=hpos q (hmt q hq)
  have hlt:sufLt s q k = true:=hso.2.2 q hq k (by simp)
  have:=sufLt_step (s:=s) (a:=q - 1) (b:=k - 1) (by omega) (by omega)
  rw [Nat.sub_add_cancel hqp.1,Nat.sub_add_cancel hkp.1] at this
  simp only [Function.comp,decide_eq_true_eq]
  rw [this]
  simp only [hlt,and_true]
  omega
 have h2:(O.drop (i + 1)).countP ((fun y => decide (y < s.getD (k - 1) 0)) ∘ fun q => s.getD (q - 1) 0) = (O.drop (i + 1)).countP ((fun m => sufLt s m (k - 1)) ∘ fun k => k - 1):=by
  apply List.countP_congr
  intro q hq
  have hqp:=hpos q (hmd q hq)
  have hlt:sufLt s q k = false:=lexL_asymm ((List.pairwise_cons.1 hso.2.1).1 q hq)
  have:=sufLt_step (s:=s) (a:=q - 1) (b:=k - 1) (by omega) (by omega)
  rw [Nat.sub_add_cancel hqp.1,Nat.sub_add_cancel hkp.1] at this
  simp only [Function.comp,decide_eq_true_eq]
  rw [this]
  simp [hlt]
 rw [h1,h2]
 simp
 omega
def textW (c:List Nat) (p:Nat):Nat → Nat → List Nat → Option (List Nat)
 | 0,row,acc => if row = p then some acc else none
 | k + 1,row,acc => if row = p then none else textW c p k (rowP c (atR p row)) (c.getD (atR p row) 0 :: acc)
theorem textW_back (h:IsEnds s es):∀ k,k ≤ s.length → textW (colL s es) (primL s es) k (rk s k) (s.drop k) = some s:=by
 intro k
 induction k with
 | zero => intro _;rw [textW,if_pos (prim_rk h).symm];rfl
 | succ k ih =>
   intro hk
   have hne:rk s (k + 1) ≠ primL s es:=by
    rw [prim_rk h]
    intro e
    have:=rk_inj hk (Nat.zero_le _) e
    omega
   have hr:rk s (k + 1) < (rowsL s es).length:=by rw [rowsL_len h];have:=rk_le h hk;omega
   have ha:=others_at h hr hne
   rw [rowsL_at h hk hr] at ha
   rw [textW,if_neg hne,rowP_rk h ha,Nat.add_sub_cancel]
   have hc:(colL s es).getD (atR (primL s es) (rk s (k + 1))) 0 = s.getD k 0:=by rw [List.getD_eq_getElem?_getD,col_get,ha];rfl
   have hd:s.getD k 0 :: s.drop (k + 1) = s.drop k:=by
    rw [List.drop_eq_getElem_cons (i:=k) (by omega),List.getD_eq_getElem?_getD,List.getElem?_eq_getElem (by omega)];rfl
   rw [hc,hd]
   exact ih (by omega)
theorem text_col (h:IsEnds s es):textW (colL s es) (primL s es) s.length 0 [] = some s:=by
 have:=textW_back h s.length (Nat.le_refl _)
 rwa [rk_len,List.drop_length] at this
end
def pre (s:List Nat) (k a:Nat):List Nat:=(s.drop a).take k
structure RankOK (s:List Nat) (k:Nat) (rank:List Nat):Prop where
 len:rank.length = s.length
 lt:∀ a,a < s.length → rank.getD a 0 < s.length
 iff:∀ a b,a < s.length → b < s.length → (rank.getD a 0 < rank.getD b 0 ↔ lexL (pre s k a) (pre s k b) = true)
def behindL (rank:List Nat) (k i:Nat):Nat:=if i + k < rank.length then rank.getD (i + k) 0 + 1 else 0
def cmpN (a b:Nat):Int:=if a < b then -1 else if b < a then 1 else 0
def cmpD (rank:List Nat) (k a b:Nat):Int:=if cmpN (rank.getD a 0) (rank.getD b 0) = 0 then cmpN (behindL rank k a) (behindL rank k b) else cmpN (rank.getD a 0) (rank.getD b 0)
def lessD (rank:List Nat) (k a b:Nat):Bool:=decide (cmpD rank k a b < 0)
theorem cmpN_zero (a b:Nat):cmpN a b = 0 ↔ a = b:=by unfold cmpN;split <;> (try split) <;> omega
theorem cmpN_neg (a b:Nat):cmpN a b < 0 ↔ a < b:=by unfold cmpN;split <;> (try split) <;> omega
theorem lessD_iff (rank:List Nat) (k a b:Nat):lessD rank k a b = true ↔ rank.getD a 0 < rank.getD b 0 ∨ (rank.getD a 0 = rank.getD b 0 ∧ behindL rank k a < behindL rank k b):=by
 unfold lessD cmpD
 rw [decide_eq_true_eq]
 by_cases h:rank.getD a 0 = rank.getD b 0
 · rw [if_pos ((cmpN_zero _ _).2 h),cmpN_neg];omega
 · rw [if_neg (fun e => h ((cmpN_zero _ _).1 e)),cmpN_neg];omega
theorem lexL_app:∀ {x y x' y':List Nat},lexL x y = true → (x' = [] ∨ y.length ≤ x.length) → lexL (x ++ x') (y ++ y') = true:=by
 intro x
 induction x with
 | nil =>
   intro y x' y' h g
   cases y with
   | nil => cases h
   | cons b y =>
     rcases g with rfl | g
     · rfl
     · simp at g
 | cons a x ih =>
   intro y x' y' h g
   cases y with
   | nil => cases h
   | cons b y =>
     rw [List.cons_append,List.cons_append]
     rcases (lexL_cons _ _ _ _).1 h with h1 | ⟨h1,h2⟩
     · exact (lexL_cons _ _ _ _).2 (.inl h1)
     · exact (lexL_cons _ _ _ _).2 (.inr ⟨h1,ih h2 (g.imp id fun g => by simpa using g)⟩)
theorem lexL_same:∀ (x:List Nat) {x' y':List Nat},lexL (x ++ x') (x ++ y') = lexL x' y':=by
 intro x
 induction x with
 | nil => intro x' y';rfl
 | cons a x ih =>
   intro x' y'
   rw [Bool.eq_iff_iff,List.cons_append,List.cons_append,lexL_cons,ih]
   simp
theorem pre_length (s:List Nat) (k a:Nat):(pre s k a).length = min k (s.length - a):=by unfold pre;rw [List.length_take,List.length_drop]
theorem pre_two (s:List Nat) (k a:Nat):pre s (k + k) a = pre s k a ++ pre s k (a + k):=by
 unfold pre
 rw [List.take_add,List.drop_drop]
theorem pre_end {s:List Nat} {k a:Nat} (h:s.length ≤ a):pre s k a = []:=by unfold pre;rw [List.drop_eq_nil_of_le h,List.take_nil]
theorem RankOK.eq_iff {s:List Nat} {k:Nat} {rank:List Nat} (h:RankOK s k rank) {a b:Nat} (ha:a < s.length) (hb:b < s.length):rank.getD a 0 = rank.getD b 0 ↔ pre s k a = pre s k b:=by
 constructor
 · intro e
   by_cases g:pre s k a = pre s k b
   · exact g
   · rcases lexL_total g with g | g
     · have:=(h.iff a b ha hb).2 g;omega
     · have:=(h.iff b a hb ha).2 g;omega
 · intro e
   have h1:=h.iff a b ha hb
   have h2:=h.iff b a hb ha
   rw [e,lexL_irrefl] at h1 h2
   have h3:¬ rank.getD a 0 < rank.getD b 0:=fun g => by have:=h1.1 g;cases this
   have h4:¬ rank.getD b 0 < rank.getD a 0:=fun g => by have:=h2.1 g;cases this
   omega
theorem lessD_lex {s:List Nat} {k:Nat} {rank:List Nat} (h:RankOK s k rank) (hk:1 ≤ k) {a b:Nat} (ha:a < s.length) (hb:b < s.length):lessD rank k a b = true ↔ lexL (pre s (k + k) a) (pre s (k + k) b) = true:=by
 have key:∀ {a b:Nat},a < s.length → b < s.length → lexL (pre s k a) (pre s k b) = true → lexL (pre s (k + k) a) (pre s (k + k) b) = true:=by
  intro a b ha hb hl
  rw [pre_two,pre_two]
  refine lexL_app hl ?_
  rw [pre_length,pre_length]
  by_cases g:a + k < s.length
  · right;omega
  · left;exact pre_end (by omega)
 rw [lessD_iff]
 by_cases e:pre s k a = pre s k b
 · have hr:=(h.eq_iff ha hb).2 e
   rw [pre_two,pre_two,e,lexL_same]
   by_cases hab:a = b
   · subst hab
     rw [lexL_irrefl]
     simp
   · have hl:=congrArg List.length e
     rw [pre_length,pre_length] at hl
     unfold behindL
     rw [h.len]
     by_cases ga:a + k < s.length
     · rw [if_pos ga]
       by_cases gb:b + k < s.length
       · rw [if_pos gb,← h.iff _ _ ga gb];omega
       · rw [if_neg gb,pre_end (a:=b + k) (by omega)]
         have:lexL (pre s k (a + k)) [] = false:=by cases pre s k (a + k) <;> rfl
         rw [this]
         constructor
         · intro h;omega
         · intro h;cases h
     · rw [if_neg ga,pre_end (a:=a + k) (by omega)]
       by_cases gb:b + k < s.length
       · rw [if_pos gb]
         have:lexL [] (pre s k (b + k)) = true:=by
          have h1:=pre_length s k (b + k)
          cases hp:pre s k (b + k) with
          | nil => rw [hp] at h1;simp at h1;omega
          | cons x l => rfl
         rw [this]
         constructor
         · intro _;rfl
         · intro _;right;omega
       · omega
 · rcases lexL_total e with g | g
   · have h1:=(h.iff a b ha hb).2 g
     rw [key ha hb g]
     constructor
     · intro _;rfl
     · intro _;exact .inl h1
   · have h1:=(h.iff b a hb ha).2 g
     rw [lexL_asymm (key hb ha g)]
     constructor
     · intro h;omega
     · intro h;cases h
def outD (lt:Nat → Nat → Bool) (es:List Nat) (n:Nat):Nat → List Nat
 | 0 => List.replicate n 0
 | j + 1 => (outD lt es n j).set (es.getD (j + 1) 0) ((outD lt es n j).getD (es.getD j 0) 0 + if lt (es.getD j 0) (es.getD (j + 1) 0) then 1 else 0)
def cntD (lt:Nat → Nat → Bool) (es:List Nat):Nat → Nat
 | 0 => 0
 | j + 1 => cntD lt es j + if lt (es.getD j 0) (es.getD (j + 1) 0) then 1 else 0
theorem outD_length (lt:Nat → Nat → Bool) (es:List Nat) (n:Nat):∀ j,(outD lt es n j).length = n:=by
 intro j
 induction j with
 | zero => simp [outD]
 | succ j ih => rw [outD,List.length_set,ih]
theorem cntD_le (lt:Nat → Nat → Bool) (es:List Nat):∀ j,cntD lt es j ≤ j:=by
 intro j
 induction j with
 | zero => exact Nat.le_refl 0
 | succ j ih => rw [cntD];split <;> omega
theorem getD_injD {es:List Nat} (hn:es.Nodup) {i j:Nat} (hi:i < es.length) (hj:j < es.length) (h:es.getD i 0 = es.getD j 0):i = j:=by
 rw [List.getD_eq_getElem?_getD,List.getD_eq_getElem?_getD,List.getElem?_eq_getElem hi,List.getElem?_eq_getElem hj] at h
 exact (List.getElem_inj hn (h₀:=hi) (h₁:=hj)).1 h
theorem outD_get {lt:Nat → Nat → Bool} {es:List Nat} {n:Nat} (hp:es.Perm (List.range n)):∀ j,j < n → ∀ i,i ≤ j → (outD lt es n j).getD (es.getD i 0) 0 = cntD lt es i:=by
 have hl:es.length = n:=by rw [hp.length_eq,List.length_range]
 have hnd:es.Nodup:=hp.nodup_iff.2 List.nodup_range
 have hlt:∀ i,i < n → es.getD i 0 < n:=by
  intro i hi
  rw [List.getD_eq_getElem?_getD,List.getElem?_eq_getElem (by omega)]
  exact List.mem_range.1 (hp.mem_iff.1 (List.getElem_mem (by omega)))
 intro j
 induction j with
 | zero =>
   intro _ i hi
   obtain rfl:i = 0:=by omega
   rw [outD,cntD,List.getD_eq_getElem?_getD,List.getElem?_replicate]
   split <;> rfl
 | succ j ih =>
   intro hj i hi
   have h1:=ih (by omega)
   rw [outD,List.getD_eq_getElem?_getD,List.getElem?_set]
   by_cases e:i = j + 1
   · subst e
     rw [if_pos rfl,if_pos (by rw [outD_length];exact hlt _ hj),h1 j (Nat.le_refl j)]
     rfl
   · rw [if_neg (fun g => e (getD_injD hnd (by omega) (by omega) g).symm),← List.getD_eq_getElem?_getD]
     exact h1 i (by omega)
theorem cnt_iff {P:Nat → List Nat} {n:Nat} (hs:∀ i j,i < j → j < n → lexL (P j) (P i) = false) {c:Nat → Nat} (hc:∀ j,j + 1 < n → c (j + 1) = c j + if lexL (P j) (P (j + 1)) then 1 else 0) :
 ∀ {i j:Nat},i ≤ j → j < n → c i ≤ c j ∧ (c i < c j ↔ lexL (P i) (P j) = true):=by
 intro i j
 induction j with
 | zero =>
   intro hi _
   obtain rfl:i = 0:=by omega
   rw [lexL_irrefl];simp
 | succ j ih =>
   intro hi hj
   by_cases e:i = j + 1
   · subst e;rw [lexL_irrefl];simp
   · have h1:=ih (by omega) (by omega)
     rw [hc j hj]
     by_cases g:lexL (P j) (P (j + 1)) = true
     · rw [if_pos g]
       refine ⟨by omega,fun _ => ?_,fun _ => by omega⟩
       by_cases g2:P i = P j
       · rw [g2];exact g
       · rcases lexL_total g2 with g3 | g3
         · exact lexL_trans g3 g
         · have:i ≠ j:=fun e => g2 (by rw [e])
           rw [hs i j (by omega) (by omega)] at g3;cases g3
     · rw [if_neg g,Nat.add_zero]
       have:P j = P (j + 1):=by
        by_cases g2:P j = P (j + 1)
        · exact g2
        · rcases lexL_total g2 with g3 | g3
          · exact absurd g3 g
          · rw [hs j (j + 1) (by omega) hj] at g3;cases g3
       rw [← this]
       exact h1
theorem rank_two {s es:List Nat} {k:Nat} {rank:List Nat} (h:RankOK s k rank) (hk:1 ≤ k) (hp:es.Perm (List.range s.length)) (hs:∀ i j,i < j → j < s.length → lessD rank k (es.getD j 0) (es.getD i 0) = false) :
 RankOK s (k + k) (outD (lessD rank k) es s.length (s.length - 1)) ∧ ∀ i j,i < j → j < s.length → lexL (pre s (k + k) (es.getD j 0)) (pre s (k + k) (es.getD i 0)) = false:=by
 have hl:es.length = s.length:=by rw [hp.length_eq,List.length_range]
 have hlt:∀ i,i < s.length → es.getD i 0 < s.length:=by
  intro i hi
  rw [List.getD_eq_getElem?_getD,List.getElem?_eq_getElem (by omega)]
  exact List.mem_range.1 (hp.mem_iff.1 (List.getElem_mem (by omega)))
 have hlx:∀ i j,i < s.length → j < s.length → (lessD rank k (es.getD i 0) (es.getD j 0) = true ↔ lexL (pre s (k + k) (es.getD i 0)) (pre s (k + k) (es.getD j 0)) = true):=fun i j hi hj => lessD_lex h hk (hlt i hi) (hlt j hj)
 have hs2:∀ i j,i < j → j < s.length → lexL (pre s (k + k) (es.getD j 0)) (pre s (k + k) (es.getD i 0)) = false:=by
  intro i j hij hj
  have h1:=hs i j hij hj
  rw [Bool.eq_false_iff] at h1 ⊢
  exact fun e => h1 ((hlx j i hj (by omega)).2 e)
 refine ⟨⟨outD_length _ _ _ _, ?_, ?_⟩,hs2⟩
 · intro a ha
   obtain ⟨i,hi,rfl⟩:=List.getElem_of_mem (hp.mem_iff.2 (List.mem_range.2 ha))
   have:=outD_get (lt:=lessD rank k) hp (s.length - 1) (by omega) i (by omega)
   rw [List.getD_eq_getElem?_getD (l:=es),List.getElem?_eq_getElem hi] at this
   have h2:=cntD_le (lessD rank k) es i
   show (outD (lessD rank k) es s.length (s.length - 1)).getD es[i] 0 < _
   rw [show (outD (lessD rank k) es s.length (s.length - 1)).getD es[i] 0 = cntD (lessD rank k) es i from this]
   omega
 · intro a b ha hb
   obtain ⟨i,hi,rfl⟩:=List.getElem_of_mem (hp.mem_iff.2 (List.mem_range.2 ha))
   obtain ⟨j,hj,rfl⟩:=List.getElem_of_mem (hp.mem_iff.2 (List.mem_range.2 hb))
   have o:=outD_get (lt:=lessD rank k) hp (s.length - 1) (by omega)
   have ei:es[i] = es.getD i 0:=by rw [List.getD_eq_getElem?_getD,List.getElem?_eq_getElem hi];rfl
   have ej:es[j] = es.getD j 0:=by rw [List.getD_eq_getElem?_getD,List.getElem?_eq_getElem hj];rfl
   rw [ei,ej,o i (by omega),o j (by omega)]
   have hcn:=fun {i j:Nat} => cnt_iff (i:=i) (j:=j) (P:=fun i => pre s (k + k) (es.getD i 0)) (n:=s.length) hs2 (c:=cntD (lessD rank k) es) (fun j hj => by
    rw [cntD]
    congr 1
    by_cases g:lessD rank k (es.getD j 0) (es.getD (j + 1) 0) = true
    · rw [if_pos g,if_pos ((hlx j (j + 1) (by omega) hj).1 g)]
    · rw [if_neg g,if_neg (fun e => g ((hlx j (j + 1) (by omega) hj).2 e))])
   rcases Nat.le_total i j with g | g
   · exact (hcn g (by omega)).2
   · by_cases e:i = j
     · subst e;rw [lexL_irrefl];simp
     · have h1:=(hcn g (by omega)).1
       rw [hs2 j i (by omega) (by omega)]
       constructor
       · intro h;omega
       · intro h;cases h
theorem ends_of {s es:List Nat} {m:Nat} (hp:es.Perm (List.range s.length)) (hs:∀ i j,i < j → j < s.length → lexL (pre s m (es.getD j 0)) (pre s m (es.getD i 0)) = false) (hm:s.length ≤ m):IsEnds s es:=by
 have hl:es.length = s.length:=by rw [hp.length_eq,List.length_range]
 have hnd:es.Nodup:=hp.nodup_iff.2 List.nodup_range
 refine ⟨hp, ?_⟩
 rw [List.pairwise_iff_getElem]
 intro i j hi hj hij
 have h1:=hs i j hij (by omega)
 rw [List.getD_eq_getElem?_getD,List.getD_eq_getElem?_getD,List.getElem?_eq_getElem hi,List.getElem?_eq_getElem hj] at h1
 simp only [Option.getD_some] at h1
 unfold pre at h1
 rw [List.take_of_length_le (by rw [List.length_drop];omega),List.take_of_length_le (by rw [List.length_drop];omega)] at h1
 have ha:es[i] < s.length:=List.mem_range.1 (hp.mem_iff.1 (List.getElem_mem hi))
 have hb:es[j] < s.length:=List.mem_range.1 (hp.mem_iff.1 (List.getElem_mem hj))
 rcases sufLt_total (s:=s) (a:=es[i]) (b:=es[j]) (by omega) (by omega) (fun e => by have:=(List.getElem_inj hnd).1 e;omega) with g | g
 · exact g
 · unfold sufLt at g;rw [h1] at g;cases g
theorem rank_one {s d rank:List Nat} (hd:d.Pairwise fun a b => a < b) (hl:rank.length = s.length) (hdl:d.length ≤ s.length) (hr:∀ a,a < s.length → rank.getD a 0 < d.length ∧ d.getD (rank.getD a 0) 0 = s.getD a 0):RankOK s 1 rank:=by
 refine ⟨hl,fun a ha => Nat.lt_of_lt_of_le (hr a ha).1 hdl,fun a b ha hb => ?_⟩
 have e:∀ a,a < s.length → pre s 1 a = [s.getD a 0]:=by
  intro a ha
  unfold pre
  rw [List.drop_eq_getElem_cons ha,List.getD_eq_getElem?_getD,List.getElem?_eq_getElem ha];rfl
 rw [e a ha,e b hb,lexL_cons]
 obtain ⟨h1,h2⟩:=hr a ha
 obtain ⟨h3,h4⟩:=hr b hb
 rw [← h2,← h4]
 generalize rank.getD a 0 = x at *
 generalize rank.getD b 0 = y at *
 rw [List.pairwise_iff_getElem] at hd
 have hm:∀ x y,x < y → y < d.length → d.getD x 0 < d.getD y 0:=by
  intro x y hxy hy
  have:=hd x y (by omega) hy hxy
  rw [List.getD_eq_getElem?_getD,List.getD_eq_getElem?_getD,List.getElem?_eq_getElem hy,List.getElem?_eq_getElem (by omega)]
  exact this
 have h5:lexL [] [] = false:=rfl
 rw [h5]
 constructor
 · intro h;exact .inl (hm x y h h3)
 · rintro (h | ⟨_,h⟩)
   · rcases Nat.lt_trichotomy x y with g | rfl | g
     · exact g
     · omega
     · have:=hm y x g h1;omega
   · cases h
theorem count_take_succ {c:List Nat} {i:Nat} (hi:i < c.length):(c.take (i + 1)).count (c.getD i 0) = (c.take i).count (c.getD i 0) + 1:=by
 rw [List.take_add_one,List.getElem?_eq_getElem hi,List.getD_eq_getElem?_getD,List.getElem?_eq_getElem hi,List.count_append]
 simp
theorem countP_le_all (c:List Nat) (x:Nat):c.countP (fun z => decide (z < x)) + c.count x ≤ c.length:=by
 induction c with
 | nil => simp
 | cons z c ih =>
   rw [List.countP_cons,List.count_cons,List.length_cons]
   rcases Nat.lt_trichotomy z x with g | g | g
   · simp [g,Nat.ne_of_lt g];omega
   · simp [g];omega
   · simp [Nat.not_lt.2 (Nat.le_of_lt g),Nat.ne_of_gt g];omega
theorem rowP_le {c:List Nat} {i:Nat} (hi:i < c.length):rowP c i ≤ c.length:=by
 have h1:=count_take_succ hi
 have h3:(c.take (i + 1)).count (c.getD i 0) ≤ c.count (c.getD i 0):=(List.take_sublist _ _).count_le _
 have:=countP_le_all c (c.getD i 0)
 unfold rowP
 omega
theorem byte_or:∀ (x:Fin 256) (b c:Fin 8),x.val / 2 ^ b.val % 2 = 0 → (x.val + 2 ^ b.val < 256 ∧ (x.val + 2 ^ b.val) / 2 ^ c.val % 2 = if c = b then 1 else x.val / 2 ^ c.val % 2):=by decide +kernel
def PackSt (l:List Bool) (k:Nat) (B:List Nat):Prop :=
 B.length = (l.length + 7) / 8 ∧ (∀ x ∈ B,x < 256) ∧ ∀ i,i < 8 * B.length → (B.getD (i / 8) 0 / 2 ^ (7 - i % 8) % 2 == 1) = (if i < k then l.getD i false else false)
theorem PackSt.zero (l:List Bool):PackSt l 0 (List.replicate ((l.length + 7) / 8) 0):=by
 refine ⟨by simp, ?_, ?_⟩
 · intro x hx;rw [List.eq_of_mem_replicate hx];omega
 · intro i hi
   rw [List.length_replicate] at hi
   have h8:i / 8 < (l.length + 7) / 8:=by omega
   simp [List.getD_eq_getElem?_getD,h8]
theorem PackSt.skip {l:List Bool} {k:Nat} {B:List Nat} (h:PackSt l k B) (hk:l.getD k false = false):PackSt l (k + 1) B:=by
 refine ⟨h.1,h.2.1,fun i hi => ?_⟩
 rw [h.2.2 i hi]
 by_cases g:i < k
 · rw [if_pos g,if_pos (by omega)]
 · rw [if_neg g]
   by_cases g2:i = k
   · subst g2;rw [if_pos (by omega),hk]
   · rw [if_neg (by omega)]
theorem PackSt.byte {l:List Bool} {k:Nat} {B:List Nat} (h:PackSt l k B) (hk:k < l.length):∃ x,B[k / 8]? = some x ∧ x < 256 ∧ x / 2 ^ (7 - k % 8) % 2 = 0 ∧ x + 2 ^ (7 - k % 8) < 256:=by
 have hB:=h.1
 have h8:k / 8 < B.length:=by omega
 have hx:=List.getElem?_eq_getElem h8
 have hx2:=h.2.1 _ (List.getElem_mem h8)
 have hz:=h.2.2 k (by omega)
 rw [if_neg (Nat.lt_irrefl _),List.getD_eq_getElem?_getD,hx,Option.getD_some] at hz
 have hz':B[k / 8] / 2 ^ (7 - k % 8) % 2 = 0:=by
  rcases Nat.mod_two_eq_zero_or_one (B[k / 8] / 2 ^ (7 - k % 8)) with e | e
  · exact e
  · rw [e] at hz;cases hz
 exact ⟨_,hx,hx2,hz',(byte_or ⟨B[k / 8],hx2⟩ ⟨7 - k % 8,by omega⟩ ⟨0,by omega⟩ hz').1⟩
theorem PackSt.put {l:List Bool} {k x:Nat} {B:List Nat} (h:PackSt l k B) (hk:k < l.length) (hl:l.getD k false = true) (hx:B[k / 8]? = some x):PackSt l (k + 1) (B.set (k / 8) (x + 2 ^ (7 - k % 8))):=by
 obtain ⟨x',hx',h256,hz,hlt⟩:=h.byte hk
 rw [hx] at hx';cases hx'
 have h8:k / 8 < B.length:=(List.getElem?_eq_some_iff.1 hx).1
 refine ⟨by rw [List.length_set];exact h.1, ?_, ?_⟩
 · intro y hy
   rcases List.mem_or_eq_of_mem_set hy with g | g
   · exact h.2.1 _ g
   · omega
 · intro i hi
   rw [List.length_set] at hi
   have hi8:i / 8 < B.length:=by omega
   have ho:=h.2.2 i hi
   rw [List.getD_eq_getElem?_getD] at ho ⊢
   rw [List.getElem?_set]
   by_cases g:k / 8 = i / 8
   · rw [if_pos g,if_pos h8,Option.getD_some]
     rw [← g,hx,Option.getD_some] at ho
     have hb:=(byte_or ⟨x,h256⟩ ⟨7 - k % 8,by omega⟩ ⟨7 - i % 8,by omega⟩ hz).2
     simp only at hb
     rw [hb]
     by_cases g2:i = k
     · subst g2;rw [if_pos rfl,if_pos (by omega),hl];rfl
     · rw [if_neg (by intro e;simp only [Fin.mk.injEq] at e;omega),ho]
       by_cases g3:i < k
       · rw [if_pos g3,if_pos (by omega)]
       · rw [if_neg g3,if_neg (by omega)]
   · rw [if_neg g,ho]
     by_cases g3:i < k
     · rw [if_pos g3,if_pos (by omega)]
     · rw [if_neg g3,if_neg (by omega)]
theorem PackSt.bs {l:List Bool} {B:List Nat} (h:PackSt l l.length B) (hl:l.length ≤ 1048576):Bs (strOf B) l.length l:=by
 refine Bs.mk hl (by rw [strOf_size];exact h.1) fun i hi => ?_
 rw [strOf_size] at hi
 unfold bitAt
 rw [strOf_byt B h.2.1,h.2.2 i hi]
 by_cases g:i < l.length
 · rw [if_pos g]
 · rw [if_neg g,List.getD_eq_getElem?_getD,List.getElem?_eq_none (by omega)];rfl
theorem natBits_more (v:Nat) {m k:Nat} (h:k < m):(natBits v m).take (k + 1) = (natBits v m).take k ++ [v / 2 ^ (m - 1 - k) % 2 == 1]:=by
 rw [List.take_add_one,natBits_get v m k h];rfl
theorem bitsL_more (s:ByteArray) (k:Nat):bitsL s (k + 1) = bitsL s k ++ [bitAt s k]:=by
 unfold bitsL;rw [List.range_succ,List.map_append];rfl
def lessL:List Int → List Int → Bool
 | [],[] => false
 | [],_ :: _ => true
 | _ :: _,[] => false
 | x :: a,y :: b => if x = y then lessL a b else decide (x < y)
theorem lessL_drop (a b:List Int):∀ (k:Nat),k ≤ a.length → k ≤ b.length → a.take k = b.take k → lessL a b = lessL (a.drop k) (b.drop k):=by
 induction a generalizing b with
 | nil => intro k hk _ _;simp at hk;subst hk;simp
 | cons x a ih =>
   intro k hk hk' h
   cases k with
   | zero => simp
   | succ k =>
     cases b with
     | nil => simp at hk'
     | cons y b =>
       simp only [List.take_succ_cons,List.cons.injEq] at h
       obtain ⟨rfl,h⟩:=h
       simp only [lessL,if_true,List.drop_succ_cons]
       exact ih b k (by simpa using hk) (by simpa using hk') h
theorem drop_cons_of {a:List Int} {k:Nat} {x:Int} (h:a[k]? = some x):a.drop k = x :: a.drop (k + 1):=by
 obtain ⟨hk,rfl⟩:=List.getElem?_eq_some_iff.1 h
 exact List.drop_eq_getElem_cons hk
theorem take_succ_of {a:List Int} {k:Nat} {x:Int} (h:a[k]? = some x):a.take (k + 1) = a.take k ++ [x]:=by
 rw [List.take_add_one,h];rfl
theorem lessL_at {a b:List Int} {k:Nat} {x y:Int} (hx:a[k]? = some x) (hy:b[k]? = some y) (h:lessL a b = lessL (a.drop k) (b.drop k)) (hne:(x != y) = true) :
 lessL a b = decide (x < y):=by
 rw [h,drop_cons_of hx,drop_cons_of hy,lessL,if_neg (by simpa using hne)]
theorem lessL_end {a b:List Int} {k:Nat} (h:lessL a b = lessL (a.drop k) (b.drop k)) (he:a.length ≤ k ∨ b.length ≤ k) (hka:k ≤ a.length) (hkb:k ≤ b.length) :
 lessL a b = decide (a.length < b.length):=by
 rw [h]
 by_cases ha:a.length ≤ k
 · rw [List.drop_eq_nil_of_le ha]
   by_cases hb:b.length ≤ k
   · rw [List.drop_eq_nil_of_le hb];simp [lessL];omega
   · rw [List.drop_eq_getElem_cons (by omega)];simp [lessL];omega
 · have hb:b.length ≤ k:=by omega
   rw [List.drop_eq_nil_of_le hb,List.drop_eq_getElem_cons (by omega)];simp [lessL];omega
set_option maxHeartbeats 400000 in
theorem less_any (A B:Option Addr) (a b:List Int) (ca cb:Nat) (w:World) (ha:Rd w w.heap.size A (a.map (.int .u64))) (hb:Rd w w.heap.size B (b.map (.int .u64)))
 (la:a.length ≤ 9223372036854775807) (lb:b.length ≤ 9223372036854775807) :
 Calls Tryz.prog 105 #[.slice A a.length ca,.slice B b.length cb] w fun e w' => e = .returned (.bool (lessL a b)) ∧ ∃ n,w' = w.drewN n:=by
 go_enter Tryz.func105,Tryz.ntmps105
 go_wp2
 go_loopw [5] (fun i wr => ∃ k n:Nat,k ≤ a.length ∧ k ≤ b.length ∧ a.take k = b.take k ∧ i = .int .i64 k ∧ wr = w.drewN n) (fun i _ => a.length - (intOf i).toNat)
 case atStart => exact ⟨0,0,by omega,by omega,by simp,rfl,rfl⟩
 case round =>
  obtain ⟨k,n,hka,hkb,htk,rfl,rfl⟩:=hrel
  have hl:=lessL_drop a b k hka hkb htk
  have HL:=hide hl
  have HT:=hide htk
  clear hl htk
  by_cases h1:k < a.length
  · by_cases h2:k < b.length
    · obtain ⟨b1,o1,x,rfl,hb1,hx,c1⟩:=ha.int h1
      obtain ⟨b2,o2,y,rfl,hb2,hy,c2⟩:=hb.int h2
      have HX:=hide hx
      have HY:=hide hy
      clear hx hy ha hb
      go_wp2
      go_quiet (fail)
      go_wp2
      · have hne:(x != y) = true:=by assumption
        go_quiet (fail)
        go_wp2
        go_ret
        exact ⟨ret_bool (lessL_at HX.out HY.out HL.out hne).symm,dr3 _ _ _ _⟩
      · have he:(x != y) = false:=by assumption
        go_roundw
        case rel => exact ⟨k + 1,_,by omega,by omega,by rw [take_succ_of HX.out,take_succ_of HY.out,HT.out,show x = y by simpa using he],rfl,rfl⟩
        case measure => simp [intOf];omega
    · go_wp2
      go_ret
      exact ⟨ret_bool (lessL_end HL.out (by omega) hka hkb).symm,n,rfl⟩
  · go_wp2
    go_ret
    exact ⟨ret_bool (lessL_end HL.out (by omega) hka hkb).symm,n,rfl⟩
theorem lessL_lex:∀ (x y:List Nat),lessL (x.map Int.ofNat) (y.map Int.ofNat) = lexL x y:=by
 intro x
 induction x with
 | nil => intro y;cases y <;> rfl
 | cons a x ih =>
   intro y
   cases y with
   | nil => rfl
   | cons b y =>
     rw [List.map_cons,List.map_cons,lessL,lexL]
     by_cases e:a = b
     · subst e
       rw [if_pos rfl,if_neg (by omega),if_neg (by omega),ih]
     · have e':¬ Int.ofNat a = Int.ofNat b:=fun h => e (Int.ofNat.inj h)
       rw [if_neg e']
       by_cases g:a < b
       · rw [if_pos g];exact decide_eq_true (by simp only [Int.ofNat_eq_natCast];omega)
       · rw [if_neg g,if_pos (by omega)];exact decide_eq_false (by simp only [Int.ofNat_eq_natCast];omega)
structure EndsTo (s:List Nat) (i:Nat) (es:List Nat):Prop where
 perm:es.Perm (List.range i)
 sorted:es.Pairwise fun a b => sufLt s a b = true
theorem EndsTo.zero (s:List Nat):EndsTo s 0 []:=⟨.refl _,List.Pairwise.nil⟩
theorem EndsTo.len {s es:List Nat} {i:Nat} (h:EndsTo s i es):es.length = i:=by rw [h.perm.length_eq,List.length_range]
theorem EndsTo.lt {s es:List Nat} {i:Nat} (h:EndsTo s i es) {x:Nat} (hx:x ∈ es):x < i:=List.mem_range.1 (h.perm.mem_iff.1 hx)
theorem EndsTo.all {s es:List Nat} (h:EndsTo s s.length es):IsEnds s es:=⟨h.perm,h.sorted⟩
theorem EndsTo.put {s es:List Nat} {i k:Nat} (h:EndsTo s i es) (hi:i < s.length) (hk:k ≤ es.length) (h1:∀ j y,k ≤ j → es[j]? = some y → sufLt s i y = true) (h2:∀ y,0 < k → es[k - 1]? = some y → sufLt s i y = false) :
 EndsTo s (i + 1) (es.take k ++ i :: es.drop k):=by
 refine ⟨?_, ?_⟩
 · refine List.perm_middle.trans ?_
   rw [List.take_append_drop,List.range_succ]
   exact (List.Perm.cons _ h.perm).trans (List.perm_append_comm (l₁:=[i]))
 · have hs:=h.sorted
   have hsp:(es.take k ++ es.drop k).Pairwise fun a b => sufLt s a b = true:=by rw [List.take_append_drop];exact hs
   obtain ⟨p1,p2,p3⟩:=List.pairwise_append.1 hsp
   have hd:∀ y ∈ es.drop k,sufLt s i y = true:=fun y hy => by
    obtain ⟨j,hj,rfl⟩:=List.mem_iff_getElem.1 hy
    refine h1 (k + j) _ (by omega) ?_
    rw [List.getElem_drop]
    rw [List.length_drop] at hj
    exact List.getElem?_eq_getElem (by omega)
   have ht:∀ y ∈ es.take k,sufLt s y i = true:=fun y hy => by
    obtain ⟨j,hj,rfl⟩:=List.mem_iff_getElem.1 hy
    rw [List.length_take] at hj
    have hk0:0 < k:=by omega
    have hl:k - 1 < es.length:=by omega
    have h3:=h2 es[k - 1] hk0 (List.getElem?_eq_getElem hl)
    have hlt:=h.lt (List.getElem_mem hl)
    have h4:sufLt s es[k - 1] i = true:=by
     rcases sufLt_total (s:=s) (a:=es[k - 1]) (b:=i) (by omega) (by omega) (by omega) with g | g
     · exact g
     · rw [h3] at g;cases g
    rw [List.getElem_take]
    by_cases e:j = k - 1
    · subst e;exact h4
    · exact lexL_trans (List.pairwise_iff_getElem.1 hs j (k - 1) (by omega) hl (by omega)) h4
   refine List.pairwise_append.2 ⟨p1,List.pairwise_cons.2 ⟨hd,p2⟩,fun a ha b hb => ?_⟩
   rcases List.mem_cons.1 hb with rfl | hb
   · exact ht a ha
   · exact p3 a ha b hb
end Go.Proofs.YtcfnjpokfodmoaaGreatDoor
