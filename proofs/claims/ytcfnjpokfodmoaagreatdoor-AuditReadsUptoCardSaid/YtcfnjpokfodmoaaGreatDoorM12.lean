/- Lemmas for the row: TabJ, TabK. -/
import Derived.Test.YtcfnjpokfodmoaaGreatDoorM04
import Derived.Test.YtcfnjpokfodmoaaGreatDoorM11
set_option maxRecDepth 100000
set_option linter.unusedVariables false
namespace Go.Proofs.YtcfnjpokfodmoaaGreatDoor
open Go.RowKit
structure Sent2 (w:World) (q0 q1:Addr):Prop where
 vars:Sents w (ers q0) (ers q1)
 ne:q0 ≠ q1
 row0:∃ c t,w.heap[q0.block]? = some (.cells c t (0,0))
 row1:∃ c t,w.heap[q1.block]? = some (.cells c t (0,0))
theorem Sent2.below {w w':World} {B:Nat} {q0 q1:Addr} (h:Sent2 w q0 q1) (hb:Below B w w') (hB:w.heap.size ≤ B):Sent2 w' q0 q1:=by
 obtain ⟨⟨v0,v1⟩,hne,⟨c0,t0,h0⟩,⟨c1,t1,h1⟩⟩:=h
 have lt:∀ (g:Nat) (o:Obj),w.heap[g]? = some o → g < B:=fun g o e => Nat.lt_of_lt_of_le (Array.getElem?_eq_some_iff.1 e).1 hB
 exact ⟨⟨(hb.cell (p:=⟨1,0,none⟩) (Nat.lt_of_lt_of_le (World.block_lt_of_cell? w _ v0) hB)).trans v0,(hb.cell (p:=⟨2,0,none⟩) (Nat.lt_of_lt_of_le (World.block_lt_of_cell? w _ v1) hB)).trans v1⟩,hne,
  ⟨c0,t0,(hb.block _ (lt _ _ h0)).trans h0⟩,⟨c1,t1,(hb.block _ (lt _ _ h1)).trans h1⟩⟩
theorem Sent2.size {w:World} {q0 q1:Addr} (h:Sent2 w q0 q1):3 ≤ w.heap.size:=World.block_lt_of_cell? w _ h.vars.2
def treadX (s:ByteArray) (n a k:Int):Int × List Nat × List Bool :=
 if rightB s n then (if a < 0 ∨ n < a ∨ k < 1 ∨ 512 < k then (1,[],[]) else readT s n.toNat a.toNat k.toNat) else (2,[],[])
def TReadP (s:ByteArray) (n k:Int) (x:Int × List Nat × List Bool) (w:World) (e:Ending) (w':World):Prop :=
 Below w.heap.size w w' ∧
 ((x.1 = 0 ∧ ∃ (a c g:Nat),a ≤ n.toNat ∧ x.2.2 = (bitsL s n.toNat).drop a ∧ e = .returned (.tuple #[.slice (some ⟨g,0,none⟩) k.toNat c,.int .i64 a,.int .i64 0]) ∧ w.heap.size ≤ g ∧ Bk w' g 3 ((x.2.1.map fun (l:Nat) => Value.int .i64 l)).toArray) ∨
  (x.1 ≠ 0 ∧ e = .returned (.tuple #[.slice none 0 0,.int .i64 0,.int .i64 x.1])))
theorem lensT_kind:∀ (n:Nat) (f:Bool) (r:List Bool) (now:Nat),(lensT n f r now).1 = 0 ∨ (lensT n f r now).1 = 5 ∨ (lensT n f r now).1 = 7:=by
 intro n
 induction n with
 | zero => intro f r now;exact .inl rfl
 | succ n ih =>
   intro f r now
   rw [lensT]
   split
   · split
     · exact .inr (.inr rfl)
     · split
       · exact .inl rfl
       · exact ih _ _ _
   · exact nextT_kind _ r now 0 (Nat.le_refl _)
theorem readT_kind (s:ByteArray) (N a n:Nat):(readT s N a n).1 = 0 ∨ (readT s N a n).1 = 5 ∨ (readT s N a n).1 = 7:=by
 have h:=lensT_kind n true ((bitsL s N).drop (a + 4)) (getN s a 4)
 unfold readT
 split
 · exact .inr (.inl rfl)
 · split
   · split
     · exact h
     · exact .inr (.inr rfl)
   · exact h
set_option maxHeartbeats 4000000 in
theorem tread_any (s:ByteArray) (n a k:Int) (q0 q1:Addr) (w:World) (hS:Sent2 w q0 q1) (hn:I64 n) (ha:I64 a) (hk:I64 k) (hs:s.size ≤ 9223372036854775807) :
 Calls Tryz.prog 85 #[bstr s n,.int .i64 a,.int .i64 k] w (TReadP s n k (treadX s n a k) w):=by
 obtain ⟨a1,a2⟩:=ha
 obtain ⟨k1,k2⟩:=hk
 have HS:=hide hS
 have h2:=hS.size
 clear hS
 by_cases hr:rightB s n = true
 · have hz:chkB s n = 0:=by simp [chkB,hr]
   have hR:=rightB_n hr
   have HR:=hide hr
   by_cases g:a < 0 ∨ n < a ∨ k < 1 ∨ 512 < k
   · have hf:treadX s n a k = (1,[],[]):=by unfold treadX;rw [if_pos HR.out,if_pos g]
     have HF:=hide hf
     clear hf
     go_enter Tryz.func85,Tryz.ntmps85
     go_wp2_with (first | (go_at_call 34;refine (check_any s n _ hn hs).mono ?_;rintro e w1 ⟨rfl,hb1⟩;rw [hz];obtain ⟨hc1,hf1⟩:=bcell hb1;have hbe1:Below w.heap.size w w1:=((Below.refl _ _).alloc (Nat.le_refl _) _).trans (hb1.mono (by simp))))
     all_goals
      first
       | (exfalso;omega)
       | (go_ret3;exact ⟨hbe1,.inr (by rw [HF.out];exact ⟨by decide,rfl⟩)⟩)
   · obtain ⟨n,rfl⟩:=Int.eq_ofNat_of_zero_le hR.1
     obtain ⟨a,rfl⟩:=Int.eq_ofNat_of_zero_le (show 0 ≤ a by omega)
     obtain ⟨k,rfl⟩:=Int.eq_ofNat_of_zero_le (show 0 ≤ k by omega)
     have hnb:n ≤ 1048576:=by omega
     have hsz:s.size = (n + 7) / 8:=by omega
     have hf:treadX s n a k = readT s n a k:=by unfold treadX;rw [if_pos HR.out,if_neg g];rfl
     rw [hf]
     have b1:decide ((a:Int) < 0) = false:=decide_eq_false (by omega)
     have b2:decide (n < a) = false:=decide_eq_false (by omega)
     have b3:decide ((k:Int) < 1) = false:=decide_eq_false (by omega)
     have b4:decide ((512:Int) < (k:Int)) = false:=decide_eq_false (by omega)
     have len:∀ (W:World) (p:Nat),Rdr W p s n a → Below w.heap.size w W → w.heap.size ≤ p → Calls Tryz.prog 128 #[.pointer (some ⟨p,0,none⟩),.int .i64 k] W (RLensP p s n k (readT s n a k) (ers q0) (ers q1) W):=fun W p h hb hp =>
      tlengths_any p s n a k q0 q1 W h (HS.out.below hb (Nat.le_refl _)).vars hnb hsz (by omega) (by omega) (by omega) (by omega)
     have hkd:=readT_kind s n a k
     obtain ⟨X,hX⟩:∃ X,X = readT s n a k:=⟨_,rfl⟩
     rw [← hX] at len hkd ⊢
     have ka:a ≤ n:=by omega
     clear hf hX hR g
     rcases hkd with h0 | h5 | h7
     · have lenA:∀ (W:World) (p:Nat),Rdr W p s n a → Below w.heap.size w W → w.heap.size ≤ p → Calls Tryz.prog 128 #[.pointer (some ⟨p,0,none⟩),.int .i64 k] W fun e w' => (∃ (at_ c g:Nat),e = .returned (.tuple #[.slice (some ⟨g,0,none⟩) k c,.nilIface]) ∧ at_ ≤ n ∧ X.2.2 = (bitsL s n).drop at_ ∧ W.heap.size ≤ g ∧ Bk w' g 3 ((X.2.1.map fun (l:Nat) => Value.int .i64 l)).toArray ∧ Rdr w' p s n at_) ∧ Below w.heap.size W w' ∧ W.heap.size ≤ w'.heap.size:=by
        intro W p h hb hp
        refine Calls.mono (len W p h hb hp) ?_
        rintro e w' ⟨hf,⟨_,at_,c,g,x1,x2,rfl,x3,x4,x5⟩ | ⟨x,_⟩ | ⟨x,_⟩⟩
        · exact ⟨⟨at_,c,g,rfl,x1,x2,x3,x4,x5⟩,hf.toBelowB (by rintro g rfl;exact hp) hb.size,hf.size⟩
        · rw [h0] at x;cases x
        · rw [h0] at x;cases x
       have HL:=hide lenA
       have HX0:=hide h0
       clear len lenA h0
       go_enter Tryz.func85,Tryz.ntmps85
       go_wp2_with (first | (go_at_call 34;refine (check_any s n _ hn hs).mono ?_;rintro e w1 ⟨rfl,hb1⟩;rw [hz];obtain ⟨hc1,hf1⟩:=bcell hb1;have hbe1:Below w.heap.size w w1:=((Below.refl _ _).alloc (Nat.le_refl _) _).trans (hb1.mono (by simp));have hs1:=hbe1.size) | (go_at_call 128;refine (Calls.mono (HL.out (w1.alloc (.cells #[.string s,.int .i64 n,.int .i64 a] 195)) w1.heap.size (Bk.new _ _ _) (hbe1.alloc hs1 _) hs1) ?_);rintro e w2 ⟨⟨at_,c,g,rfl,hat,x2,x3,x4,x5⟩,hb2,hf2⟩;have hbe2:Below w.heap.size w w2:=(hbe1.alloc hs1 _).trans hb2;have S2:=HS.out.below hbe2 (Nat.le_refl _);have g0:=S2.vars.1;have HF2:=hide hf2;have HS2:=hide S2;have HB2:=hide hb2;have d2:=x5.cell 2;simp at d2;have HX2:=hide x2;have HX4:=hide x4;clear hf2 S2 hb2 x2 x4 x5) | (go_at_call 129;refine (Calls.mono (is_nil q0 _) ?_);rintro e w3 ⟨rfl,hww⟩;replace hww:=hww.symm;subst hww))
       go_region
       go_wp2_with fail
       go_ret3
       exact ⟨below_drewN hbe2 _,.inl ⟨HX0.out,at_,c,g,hat,HX2.out,rfl,Nat.le_trans (Nat.le_trans hs1 (by simp)) x3,HX4.out⟩⟩
     · have lenA:∀ (W:World) (p:Nat),Rdr W p s n a → Below w.heap.size w W → w.heap.size ≤ p → Calls Tryz.prog 128 #[.pointer (some ⟨p,0,none⟩),.int .i64 k] W fun e w' => (∃ v,e = .returned (.tuple #[v,ers q0])) ∧ Below w.heap.size W w' ∧ W.heap.size ≤ w'.heap.size:=by
        intro W p h hb hp
        refine Calls.mono (len W p h hb hp) ?_
        rintro e w' ⟨hf,⟨x,_⟩ | ⟨_,x⟩ | ⟨x,_⟩⟩
        · rw [h5] at x;cases x
        · exact ⟨x,hf.toBelowB (by rintro g rfl;exact hp) hb.size,hf.size⟩
        · rw [h5] at x;cases x
       have HL:=hide lenA
       have HX0:=hide h5
       clear len lenA h5
       go_enter Tryz.func85,Tryz.ntmps85
       go_wp2_with (first | (go_at_call 34;refine (check_any s n _ hn hs).mono ?_;rintro e w1 ⟨rfl,hb1⟩;rw [hz];obtain ⟨hc1,hf1⟩:=bcell hb1;have hbe1:Below w.heap.size w w1:=((Below.refl _ _).alloc (Nat.le_refl _) _).trans (hb1.mono (by simp));have hs1:=hbe1.size) | (go_at_call 128;refine (Calls.mono (HL.out (w1.alloc (.cells #[.string s,.int .i64 n,.int .i64 a] 195)) w1.heap.size (Bk.new _ _ _) (hbe1.alloc hs1 _) hs1) ?_);rintro e w2 ⟨⟨v,rfl⟩,hb2,hf2⟩;have hbe2:Below w.heap.size w w2:=(hbe1.alloc hs1 _).trans hb2;have S2:=HS.out.below hbe2 (Nat.le_refl _);have g0:=S2.vars.1;have HF2:=hide hf2;have HS2:=hide S2;have HB2:=hide hb2;clear hf2 S2 hb2) | (go_at_call 129;refine (Calls.mono (is_same q0 _) ?_);rintro e w3 ⟨rfl,hww⟩;replace hww:=hww.symm;subst hww))
       go_ret3
       exact ⟨hbe2,.inr (by rw [HX0.out];exact ⟨by decide,rfl⟩)⟩
     · have lenA:∀ (W:World) (p:Nat),Rdr W p s n a → Below w.heap.size w W → w.heap.size ≤ p → Calls Tryz.prog 128 #[.pointer (some ⟨p,0,none⟩),.int .i64 k] W fun e w' => (∃ v,e = .returned (.tuple #[v,ers q1])) ∧ Below w.heap.size W w' ∧ W.heap.size ≤ w'.heap.size:=by
        intro W p h hb hp
        refine Calls.mono (len W p h hb hp) ?_
        rintro e w' ⟨hf,⟨x,_⟩ | ⟨x,_⟩ | ⟨_,x⟩⟩
        · rw [h7] at x;cases x
        · rw [h7] at x;cases x
        · exact ⟨x,hf.toBelowB (by rintro g rfl;exact hp) hb.size,hf.size⟩
       have HL:=hide lenA
       have HX0:=hide h7
       clear len lenA h7
       go_enter Tryz.func85,Tryz.ntmps85
       go_wp2_with (first | (go_at_call 34;refine (check_any s n _ hn hs).mono ?_;rintro e w1 ⟨rfl,hb1⟩;rw [hz];obtain ⟨hc1,hf1⟩:=bcell hb1;have hbe1:Below w.heap.size w w1:=((Below.refl _ _).alloc (Nat.le_refl _) _).trans (hb1.mono (by simp));have hs1:=hbe1.size) | (go_at_call 128;refine (Calls.mono (HL.out (w1.alloc (.cells #[.string s,.int .i64 n,.int .i64 a] 195)) w1.heap.size (Bk.new _ _ _) (hbe1.alloc hs1 _) hs1) ?_);rintro e w2 ⟨⟨v,rfl⟩,hb2,hf2⟩;have hbe2:Below w.heap.size w w2:=(hbe1.alloc hs1 _).trans hb2;have S2:=HS.out.below hbe2 (Nat.le_refl _);have g0:=S2.vars.1;have HF2:=hide hf2;have HS2:=hide S2;have HB2:=hide hb2;clear hf2 S2 hb2) | (go_at_call 129;obtain ⟨c0,t0,r0⟩:=HS2.out.row0;obtain ⟨c1,t1,r1⟩:=HS2.out.row1;refine (Calls.mono (is_other q1 q0 c1 c0 t1 t0 _ HS2.out.ne.symm r1 r0) ?_);rintro e w3 ⟨rfl,hww⟩;replace hww:=hww.symm;subst hww))
       go_ret3
       exact ⟨hbe2,.inr (by rw [HX0.out];exact ⟨by decide,rfl⟩)⟩
 · have hz:chkB s n = 2:=by simp [chkB,hr]
   have hf:treadX s n a k = (2,[],[]):=by unfold treadX;rw [if_neg hr]
   have HF:=hide hf
   clear hf hr
   go_enter Tryz.func85,Tryz.ntmps85
   go_wp2_with (first | (go_at_call 34;refine (check_any s n _ hn hs).mono ?_;rintro e w1 ⟨rfl,hb1⟩;rw [hz];obtain ⟨hc1,hf1⟩:=bcell hb1;have hbe1:Below w.heap.size w w1:=((Below.refl _ _).alloc (Nat.le_refl _) _).trans (hb1.mono (by simp))))
   go_ret3
   exact ⟨hbe1,.inr (by rw [HF.out];exact ⟨by decide,rfl⟩)⟩
theorem toNat_ofNat {ls:List Int} (h:∀ x ∈ ls,0 ≤ x):(ls.map Int.toNat).map Int.ofNat = ls:=by
 rw [List.map_map]
 conv => rhs;rw [← List.map_id ls]
 apply List.map_congr_left
 intro x hx
 have:=h x hx
 show ((x.toNat:Nat):Int) = x
 omega
theorem getN_of {s:ByteArray} {N a k v:Nat} {r:List Bool} (h:(bitsL s N).drop a = natBits v k ++ r) (hk:0 < k) (hv:v < 2 ^ k):a + k ≤ N ∧ getN s a k = v ∧ (bitsL s N).drop (a + k) = r:=by
 have hl:a + k ≤ N:=by
  have:=congrArg List.length h
  simp at this;omega
 refine ⟨hl, ?_, ?_⟩
 · apply natBits_inj (getN_lt s a k) hv
   rw [natBits_getN,← bits_seg s hl,h,List.take_left' (by simp)]
 · rw [← List.drop_drop,h,List.drop_left' (by simp)]
theorem tabL_head {ls:List Int}:tabBits ls = natBits ((ls.map Int.toNat).headD 0) 4 ++ tabT ((ls.map Int.toNat).headD 0) (ls.map Int.toNat):=rfl
theorem head_le {ls:List Int} (h:∀ x ∈ ls,0 ≤ x ∧ x ≤ 15):(ls.map Int.toNat).headD 0 ≤ 15:=by
 cases ls with
 | nil => simp
 | cons x l => have:=h x (by simp);simp;omega
theorem nat_le {ls:List Int} (h:∀ x ∈ ls,0 ≤ x ∧ x ≤ 15):∀ x ∈ ls.map Int.toNat,x ≤ 15:=fun x hx => by
 obtain ⟨y,hy,rfl⟩:=List.mem_map.1 hx
 have:=h y hy;omega
theorem head_eq {l:List Nat}:∀ x,l.head? = some x → x = l.headD 0:=by
 intro x h
 cases l with
 | nil => simp at h
 | cons y l => simp at h;simp [h]
theorem read_bits {s:ByteArray} {N a n:Nat} {out:List Nat} {r:List Bool} (hn:1 ≤ n) (h:readT s N a n = (0,out,r)):tabW (out.map Int.ofNat) = 0 ∧ out.length = n ∧ (bitsL s N).drop a = tabBits (out.map Int.ofNat) ++ r:=by
 unfold readT at h
 split at h
 · cases h
 · rename_i g4
   split at h
   · rename_i g0
     split at h
     · rename_i gok
       rw [h] at gok
       have hb:=lensT_bits n true _ (getN s a 4) out r (by have:=getN_lt s a 4;omega) h
       obtain ⟨b1,b2,b3,b4⟩:=hb
       have hne:out.length ≠ 0:=by omega
       refine ⟨?_,b1, ?_⟩
       · unfold tabW okW
         rw [if_neg (by simpa using hne),if_pos gok]
       · have hm:(out.map Int.ofNat).map Int.toNat = out:=by
          rw [List.map_map]
          conv => rhs;rw [← List.map_id out]
          exact List.map_congr_left fun x _ => by show (Int.ofNat x).toNat = x;simp
         have hh:out.headD 0 = getN s a 4:=by
          cases out with
          | nil => simp at hne
          | cons x l => simp;exact b3 rfl x (by simp)
         unfold tabBits tableL
         rw [hm,hh,List.append_assoc,← b4,natBits_getN,← bits_seg s (n:=N) (by omega),← List.drop_drop,List.take_append_drop]
     · cases h
   · rename_i g0
     rw [h] at g0
     exact absurd rfl g0
end Go.Proofs.YtcfnjpokfodmoaaGreatDoor
