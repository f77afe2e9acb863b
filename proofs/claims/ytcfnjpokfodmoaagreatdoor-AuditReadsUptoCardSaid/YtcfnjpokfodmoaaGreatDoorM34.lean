/- Lemmas for the row: Fields, Head, Front, Seal. -/
import Derived.Test.YtcfnjpokfodmoaaGreatDoorM01
import Derived.Test.YtcfnjpokfodmoaaGreatDoorM09
import Derived.Test.YtcfnjpokfodmoaaGreatDoorM11
import Derived.Test.YtcfnjpokfodmoaaGreatDoorM31
import Derived.Test.YtcfnjpokfodmoaaGreatDoorM33
import Derived.Test.YtcfnjpokfodmoaaGreatDoorShelf
import Derived.Deep.RegionHeld3
import Derived.Deep.RegionWith
import Derived.Laws.EntriesVeiled
set_option maxRecDepth 100000
set_option linter.unusedVariables false
namespace Go.Proofs.YtcfnjpokfodmoaaGreatDoor
open Go.RowKit
def headV (h:Hd):Value:=.agg #[.int .u64 (h.cnt:Nat),.int .u64 (h.prim:Nat),.int .u32 (h.sum:Nat),.int .u64 (h.segs:Nat),.int .u64 (h.bits:Nat)]
def cutS (s:ByteArray) (k:Nat):ByteArray:=s.extract k s.size
theorem cutS_strL (s:ByteArray) (k:Nat):strL (cutS s k) = (strL s).drop k:=by
 unfold cutS
 rw [strL_sub,List.take_of_length_le (by rw [strL_length];exact Nat.le_refl _)]
theorem cutS_size (s:ByteArray) (k:Nat):(cutS s k).size = s.size - k:=by rw [← strL_length,cutS_strL,List.length_drop,strL_length]
theorem fget_any (b:Nat) (s:ByteArray) (w:World) (h:Bk w b 9 #[.string s]) (hs:5 ≤ s.size) :
 Calls Tryz.prog 117 #[.pointer (some ⟨b,0,none⟩)] w fun e w' => e = .returned (.int .u64 (ofB ((strL s).take 5):Nat)) ∧ w' = w.setCell ⟨b,0,none⟩ (.string (cutS s 5)):=by
 have c0:w.cell? ⟨b,0,none⟩ = some (.string s):=(h.cell 0).trans rfl
 have f0:=h.free 0
 have of:=fun W => numOf_any s W hs
 have HOf:=hide of
 have h5:¬ (s.size:Int) < 5:=by omega
 unfold cutS
 clear of h
 go_enter Tryz.func117,Tryz.ntmps117
 go_wp2_with (go_at_call 118;refine (Calls.mono (HOf.out _) ?_);rintro e w1 ⟨rfl,rfl⟩)
 go_ret
 exact ⟨rfl,rfl⟩
theorem fget_at (b:Nat) (s0:ByteArray) (k:Nat) (w:World) (h:Bk w b 9 #[.string (cutS s0 k)]) (hs:k + 5 ≤ s0.size) :
 Calls Tryz.prog 117 #[.pointer (some ⟨b,0,none⟩)] w fun e w' => e = .returned (.int .u64 (ofB (((strL s0).drop k).take 5):Nat)) ∧ Bk w' b 9 #[.string (cutS s0 (k + 5))] ∧ Fr (fun g => g = b) w w':=by
 refine Calls.mono (fget_any b (cutS s0 k) w h (by rw [cutS_size];omega)) ?_
 rintro e w' ⟨rfl,rfl⟩
 have e1:cutS (cutS s0 k) 5 = cutS s0 (k + 5):=strL_inj (by rw [cutS_strL,cutS_strL,cutS_strL,List.drop_drop])
 rw [cutS_strL,e1]
 exact ⟨rfl,h.set_ 0 _,(Fr.refl (fun g => g = b) w).setCell (p:=⟨b,0,none⟩) (.inl rfl) _⟩
theorem five_cells {w:World} {g:Nat} {t:TypeId} {a b c d e:Value} (h:Bk w g t #[a,b,c,d,e]):(w.cell? ⟨g,0,none⟩ = some a ∧ w.cell? ⟨g,1,none⟩ = some b ∧ w.cell? ⟨g,2,none⟩ = some c ∧ w.cell? ⟨g,3,none⟩ = some d ∧ w.cell? ⟨g,4,none⟩ = some e) ∧ (w.frozen? ⟨g,0,none⟩ = false ∧ w.frozen? ⟨g,1,none⟩ = false ∧ w.frozen? ⟨g,2,none⟩ = false ∧ w.frozen? ⟨g,3,none⟩ = false ∧ w.frozen? ⟨g,4,none⟩ = false) :=
 ⟨⟨h.cell 0,h.cell 1,h.cell 2,h.cell 3,h.cell 4⟩,⟨h.free 0,h.free 1,h.free 2,h.free 3,h.free 4⟩⟩
def leL (l:List Nat):Nat:=l.foldr (fun x n => x + 256 * n) 0
theorem leL_lt {l:List Nat} (hl:∀ x ∈ l,x < 256) (k:Nat):leL (l.take k) < 256 ^ k:=by
 induction l generalizing k with
 | nil => simp [leL,Nat.pow_pos]
 | cons x l ih =>
   cases k with
   | zero => simp [leL]
   | succ k =>
     have h1:=ih (fun y hy => hl y (List.mem_cons_of_mem _ hy)) k
     have h2:=hl x (by simp)
     rw [List.take_succ_cons,Nat.pow_succ]
     show x + 256 * leL (l.take k) < _
     omega
theorem leL_take {l:List Nat} {k:Nat} (h:k < l.length):leL (l.take (k + 1)) = leL (l.take k) + 256 ^ k * l.getD k 0:=by
 induction l generalizing k with
 | nil => simp at h
 | cons x l ih =>
   cases k with
   | zero => simp [leL]
   | succ k =>
     have h1:=ih (k:=k) (by simpa using h)
     rw [List.take_succ_cons,List.take_succ_cons]
     show x + 256 * leL (l.take (k + 1)) = x + 256 * leL (l.take k) + _
     rw [h1,Nat.pow_succ,List.getD_cons_succ,Nat.mul_add,Nat.mul_comm (256 ^ k) 256,Nat.mul_assoc];omega
theorem leL_step {T:ByteArray} {k:Nat} (h:k < T.size):leL ((strL T).take (k + 1)) = leL ((strL T).take k) + 256 ^ k * byt T k:=by
 rw [leL_take (by rw [strL_length];exact h),List.getD_eq_getElem?_getD,strL_get h];rfl
theorem or32_0 {X c:Nat} (h:X < 1) (hc:c < 256):bits .or .u32 (X:Int) (c:Int) = ((X + 1 * c:Nat):Int):=by
 have e2:(c:Int) = ((1 * c:Nat):Int):=by omega
 have e3:1 * c ||| X = 1 * c + X:=by
  have:=Nat.two_pow_add_eq_or_of_lt (i:=0) (b:=X) (by simpa using h) c
  rw [show (2:Nat) ^ 0 = 1 from rfl] at this
  exact this.symm
 rw [e2,u32_or_nat _ _ (by omega) (by omega),Nat.or_comm,e3,Nat.add_comm]
theorem or32_1 {X c:Nat} (h:X < 256) (hc:c < 256):bits .or .u32 (X:Int) ((c:Int) * 256) = ((X + 256 * c:Nat):Int):=by
 have e2:((c:Int) * 256) = ((256 * c:Nat):Int):=by omega
 have e3:256 * c ||| X = 256 * c + X:=by
  have:=Nat.two_pow_add_eq_or_of_lt (i:=8) (b:=X) (by simpa using h) c
  rw [show (2:Nat) ^ 8 = 256 from rfl] at this
  exact this.symm
 rw [e2,u32_or_nat _ _ (by omega) (by omega),Nat.or_comm,e3,Nat.add_comm]
theorem or32_2 {X c:Nat} (h:X < 65536) (hc:c < 256):bits .or .u32 (X:Int) ((c:Int) * 65536) = ((X + 65536 * c:Nat):Int):=by
 have e2:((c:Int) * 65536) = ((65536 * c:Nat):Int):=by omega
 have e3:65536 * c ||| X = 65536 * c + X:=by
  have:=Nat.two_pow_add_eq_or_of_lt (i:=16) (b:=X) (by simpa using h) c
  rw [show (2:Nat) ^ 16 = 65536 from rfl] at this
  exact this.symm
 rw [e2,u32_or_nat _ _ (by omega) (by omega),Nat.or_comm,e3,Nat.add_comm]
theorem or32_3 {X c:Nat} (h:X < 16777216) (hc:c < 256):bits .or .u32 (X:Int) ((c:Int) * 16777216) = ((X + 16777216 * c:Nat):Int):=by
 have e2:((c:Int) * 16777216) = ((16777216 * c:Nat):Int):=by omega
 have e3:16777216 * c ||| X = 16777216 * c + X:=by
  have:=Nat.two_pow_add_eq_or_of_lt (i:=24) (b:=X) (by simpa using h) c
  rw [show (2:Nat) ^ 24 = 16777216 from rfl] at this
  exact this.symm
 rw [e2,u32_or_nat _ _ (by omega) (by omega),Nat.or_comm,e3,Nat.add_comm]
set_option maxHeartbeats 4000000 in
theorem fields_any (s:ByteArray) (w:World) (hs:28 ≤ s.size) (h64:s.size ≤ 1000000):Calls Tryz.prog 78 #[.string s] w fun e w' => e = .returned (headV (fieldsL (strL s))) ∧ Below w.heap.size w w':=by
 have hmf:∀ (fn:Fn) (first cap:Array Value) (w:World),(Instr.makeFunc fn first cap).run Tryz.prog w = .ok (.func fn first cap) w:=fun _ _ _ _ => rfl
 have eg:∀ args w,(callFunc 117 args).run Tryz.prog w = .ok (.enter 117 args) w:=enters_of Tryz.func117 (by kernel_rfl) rfl
 have h4:¬ (s.size:Int) < 4:=by omega
 have hcut:s.extract 4 s.size = cutS s 4:=rfl
 obtain ⟨Z,hZ⟩:∃ Z:Array Value,Z = #[.int .u64 0,.int .u64 0,.int .u32 0,.int .u64 0,.int .u64 0]:=⟨_,rfl⟩
 have HK0:Hid (Bk (((w.alloc (.cells #[.string (cutS s 4)] 9)).alloc (.cells #[.int .u64 0,.int .u64 0,.int .u32 0,.int .u64 0,.int .u64 0] 25)).alloc (.cells #[.int .u64 0,.int .u64 0,.int .u32 0,.int .u64 0,.int .u64 0] 25)) w.heap.size 9 #[.string (cutS s 4)]):=hide (((Bk.new w _ _).alloc _).alloc _)
 have HK1:Hid (Bk (((w.alloc (.cells #[.string (cutS s 4)] 9)).alloc (.cells #[.int .u64 0,.int .u64 0,.int .u32 0,.int .u64 0,.int .u64 0] 25)).alloc (.cells #[.int .u64 0,.int .u64 0,.int .u32 0,.int .u64 0,.int .u64 0] 25)) (w.heap.size + 1) 25 #[.int .u64 0,.int .u64 0,.int .u32 0,.int .u64 0,.int .u64 0]):=hide ((Bk.new1 w _ _ _).alloc _)
 have HK2:Hid (Bk (((w.alloc (.cells #[.string (cutS s 4)] 9)).alloc (.cells #[.int .u64 0,.int .u64 0,.int .u32 0,.int .u64 0,.int .u64 0] 25)).alloc (.cells #[.int .u64 0,.int .u64 0,.int .u32 0,.int .u64 0,.int .u64 0] 25)) (w.heap.size + 1 + 1) 25 #[.int .u64 0,.int .u64 0,.int .u32 0,.int .u64 0,.int .u64 0]):=hide (Bk.new2 w _ _ _ _)
 have HBe0:Hid (Below w.heap.size w (((w.alloc (.cells #[.string (cutS s 4)] 9)).alloc (.cells #[.int .u64 0,.int .u64 0,.int .u32 0,.int .u64 0,.int .u64 0] 25)).alloc (.cells #[.int .u64 0,.int .u64 0,.int .u32 0,.int .u64 0,.int .u64 0] 25))):=hide ((((Below.refl _ w).alloc (Nat.le_refl _) _).alloc (by simp) _).alloc (by simp;omega) _)
 obtain ⟨S,hS⟩:∃ S,S = cutS s 4:=⟨_,rfl⟩
 rw [← hS] at HK0 HK1 HK2 HBe0 hcut
 have HS:=hide hS
 have g1:=fun (W:World) (h:Bk W w.heap.size 9 #[.string S]) => fget_at w.heap.size s 4 W (by rw [← hS];exact h) (by omega)
 have g2:=fun (W:World) (h:Bk W w.heap.size 9 #[.string (cutS s (4 + 5))]) => fget_at w.heap.size s (4 + 5) W h (by omega)
 have HG1:=hide g1
 have HG2:=hide g2
 clear hS g1 g2
 obtain ⟨a1,ha1⟩:∃ a,a = ofB (((strL s).drop 4).take 5):=⟨_,rfl⟩
 obtain ⟨a2,ha2⟩:∃ a,a = ofB (((strL s).drop (4 + 5)).take 5):=⟨_,rfl⟩
 rw [← ha1] at HG1
 rw [← ha2] at HG2
 have HA1:=hide ha1
 have HA2:=hide ha2
 clear ha1 ha2 hZ Z
 go_enter Tryz.func78,Tryz.ntmps78
 go_wp2_with (first
  | (go_at_call 117;refine (Calls.mono (HG1.out _ HK0.out) ?_);rintro e w1 ⟨rfl,hb1,hf1⟩;have HB1:=hide hb1;have HF1:=hide hf1;clear hb1 hf1)
  | (go_at_call 117;refine (Calls.mono (HG2.out _ HB1.out) ?_);rintro e w2 ⟨rfl,hb2,hf2⟩;have HB2:=hide hb2;have HF2:=hide hf2;have k2:=(HK2.out.fr HF1.out (by omega)).fr hf2 (by omega);obtain ⟨⟨c0,c1,c2,c3,c4⟩,⟨f0,f1,f2,f3,f4⟩⟩:=five_cells k2;have HK22:=hide k2;clear hb2 hf2 k2))
 obtain ⟨T,hT⟩:∃ T,T = cutS s (4 + 5 + 5):=⟨_,rfl⟩
 have hTs:T.size = s.size - 14:=by rw [hT,cutS_size]
 rw [← hT] at HB2
 have hn0:w.heap.size ≠ w.heap.size + 1 + 1:=by omega
 have hn1:w.heap.size + 1 ≠ w.heap.size + 1 + 1:=by omega
 have k4:=(HK22.out.set_ 0 (.int .u64 a1)).set_ 1 (.int .u64 a2)
 have k0:=(HB2.out.far (p:=⟨w.heap.size + 1 + 1,0,none⟩) hn0 (.int .u64 a1)).far (p:=⟨w.heap.size + 1 + 1,1,none⟩) hn0 (.int .u64 a2)
 have k1:=(((HK1.out.fr HF1.out (by omega)).fr HF2.out (by omega)).far (p:=⟨w.heap.size + 1 + 1,0,none⟩) hn1 (.int .u64 a1)).far (p:=⟨w.heap.size + 1 + 1,1,none⟩) hn1 (.int .u64 a2)
 have be:Below w.heap.size w ((w2.setCell ⟨w.heap.size + 1 + 1,0,none⟩ (.int .u64 a1)).setCell ⟨w.heap.size + 1 + 1,1,none⟩ (.int .u64 a2)):=((HBe0.out.trans (HF1.out.toBelowB (fun g hg => by omega) (by have:=HK0.out.lt;omega))).trans (HF2.out.toBelowB (fun g hg => by omega) (by have:=HF1.out.size;have:=HK0.out.lt;omega))).setCell (p:=⟨w.heap.size + 1 + 1,0,none⟩) (by show w.heap.size ≤ w.heap.size + 1 + 1;omega) _ |>.setCell (p:=⟨w.heap.size + 1 + 1,1,none⟩) (by show w.heap.size ≤ w.heap.size + 1 + 1;omega) _
 obtain ⟨W2,hW2⟩:∃ W,W = (w2.setCell ⟨w.heap.size + 1 + 1,0,none⟩ (.int .u64 a1)).setCell ⟨w.heap.size + 1 + 1,1,none⟩ (.int .u64 a2):=⟨_,rfl⟩
 rw [← hW2] at k4 k0 k1 be ⊢
 have K4:=hide k4
 have K0:=hide k0
 have K1:=hide k1
 have BE:=hide be
 have HT:=hide hT
 clear k4 k0 k1 be hW2 HB1 HF1 HB2 HF2 HK0 HK1 HK2 HK22 c0 c1 c2 c3 c4 f0 f1 f2 f3 f4 hT HBe0 HG1 HG2
 go_loopw [15] (fun i wr => ∃ k:Nat,k ≤ 4 ∧ i = .int .i64 k ∧ Hid (Bk wr w.heap.size 9 #[.string T]) ∧ Hid (Bk wr (w.heap.size + 1) 25 #[.int .u64 0,.int .u64 0,.int .u32 0,.int .u64 0,.int .u64 0]) ∧ Hid (Bk wr (w.heap.size + 1 + 1) 25 #[.int .u64 a1,.int .u64 a2,.int .u32 (leL ((strL T).take k):Nat),.int .u64 0,.int .u64 0]) ∧ Hid (Below w.heap.size w wr)) (fun i _ => 4 - (intOf i).toNat)
 case atStart => exact ⟨0,by omega,rfl,K0,K1,K4,BE⟩
 case round =>
  clear K0 K1 K4 BE
  obtain ⟨k,hk,rfl,hb0,hb1,hb4,hbe⟩:=hrel
  have t0:wr.cell? ⟨w.heap.size,0,none⟩ = some (.string T):=(hb0.out.cell 0).trans rfl
  obtain ⟨⟨c0,c1,c2,c3,c4⟩,⟨f0,f1,f2,f3,f4⟩⟩:=five_cells hb4.out
  by_cases hlt4:k < 4
  · have hk4:k = 0 ∨ k = 1 ∨ k = 2 ∨ k = 3:=by omega
    rcases hk4 with rfl | rfl | rfl | rfl
    · have hlt:0 < T.size:=by omega
      obtain ⟨c,hc⟩:∃ c,c = byt T 0:=⟨_,rfl⟩
      have hc256:c < 256:=by rw [hc];exact byt_lt T 0
      have hcs:(T[0]'hlt).toNat = c:=by rw [hc,byt_of]
      obtain ⟨X,hX⟩:∃ X,X = leL ((strL T).take 0):=⟨_,rfl⟩
      have hXl:X < 1:=by rw [hX];exact leL_lt (strL_lt T) 0
      have hXn:leL ((strL T).take (0 + 1)) = X + 1 * c:=by rw [hX,hc];exact leL_step hlt
      rw [← hX] at c2 hb4
      have hor:=or32_0 hXl hc256
      obtain ⟨Y,hY⟩:∃ Y,Y = X + 1 * c:=⟨_,rfl⟩
      rw [← hY] at hor hXn
      clear hY
      have HXn:=hide hXn
      have HB4:=hide hb4
      clear hX hXn hc hb4
      go_wp2_with fail
      go_region
      go_wp2_with fail
      go_roundw
      case rel => exact ⟨0 + 1,by omega,by first | rfl | go_num,hide (hb0.out.far (p:=⟨w.heap.size + 1 + 1,2,none⟩) (by show w.heap.size ≠ w.heap.size + 1 + 1;omega) _),hide (hb1.out.far (p:=⟨w.heap.size + 1 + 1,2,none⟩) (by show w.heap.size + 1 ≠ w.heap.size + 1 + 1;omega) _),hide (by rw [HXn.out];exact HB4.out.set_ 2 _),hide (hbe.out.setCell (p:=⟨w.heap.size + 1 + 1,2,none⟩) (by show w.heap.size ≤ w.heap.size + 1 + 1;omega) _).drew⟩
      case measure => simp [intOf]
    · have hlt:1 < T.size:=by omega
      obtain ⟨c,hc⟩:∃ c,c = byt T 1:=⟨_,rfl⟩
      have hc256:c < 256:=by rw [hc];exact byt_lt T 1
      have hcs:(T[1]'hlt).toNat = c:=by rw [hc,byt_of]
      obtain ⟨X,hX⟩:∃ X,X = leL ((strL T).take 1):=⟨_,rfl⟩
      have hXl:X < 256:=by rw [hX];exact leL_lt (strL_lt T) 1
      have hXn:leL ((strL T).take (1 + 1)) = X + 256 * c:=by rw [hX,hc];exact leL_step hlt
      rw [← hX] at c2 hb4
      have hor:=or32_1 hXl hc256
      obtain ⟨Y,hY⟩:∃ Y,Y = X + 256 * c:=⟨_,rfl⟩
      rw [← hY] at hor hXn
      clear hY
      have HXn:=hide hXn
      have HB4:=hide hb4
      clear hX hXn hc hb4
      go_wp2_with fail
      go_region
      go_wp2_with fail
      go_roundw
      case rel => exact ⟨1 + 1,by omega,by first | rfl | go_num,hide (hb0.out.far (p:=⟨w.heap.size + 1 + 1,2,none⟩) (by show w.heap.size ≠ w.heap.size + 1 + 1;omega) _),hide (hb1.out.far (p:=⟨w.heap.size + 1 + 1,2,none⟩) (by show w.heap.size + 1 ≠ w.heap.size + 1 + 1;omega) _),hide (by rw [HXn.out];exact HB4.out.set_ 2 _),hide (hbe.out.setCell (p:=⟨w.heap.size + 1 + 1,2,none⟩) (by show w.heap.size ≤ w.heap.size + 1 + 1;omega) _).drew⟩
      case measure => simp [intOf]
    · have hlt:2 < T.size:=by omega
      obtain ⟨c,hc⟩:∃ c,c = byt T 2:=⟨_,rfl⟩
      have hc256:c < 256:=by rw [hc];exact byt_lt T 2
      have hcs:(T[2]'hlt).toNat = c:=by rw [hc,byt_of]
      obtain ⟨X,hX⟩:∃ X,X = leL ((strL T).take 2):=⟨_,rfl⟩
      have hXl:X < 65536:=by rw [hX];exact leL_lt (strL_lt T) 2
      have hXn:leL ((strL T).take (2 + 1)) = X + 65536 * c:=by rw [hX,hc];exact leL_step hlt
      rw [← hX] at c2 hb4
      have hor:=or32_2 hXl hc256
      obtain ⟨Y,hY⟩:∃ Y,Y = X + 65536 * c:=⟨_,rfl⟩
      rw [← hY] at hor hXn
      clear hY
      have HXn:=hide hXn
      have HB4:=hide hb4
      clear hX hXn hc hb4
      go_wp2_with fail
      go_region
      go_wp2_with fail
      go_roundw
      case rel => exact ⟨2 + 1,by omega,by first | rfl | go_num,hide (hb0.out.far (p:=⟨w.heap.size + 1 + 1,2,none⟩) (by show w.heap.size ≠ w.heap.size + 1 + 1;omega) _),hide (hb1.out.far (p:=⟨w.heap.size + 1 + 1,2,none⟩) (by show w.heap.size + 1 ≠ w.heap.size + 1 + 1;omega) _),hide (by rw [HXn.out];exact HB4.out.set_ 2 _),hide (hbe.out.setCell (p:=⟨w.heap.size + 1 + 1,2,none⟩) (by show w.heap.size ≤ w.heap.size + 1 + 1;omega) _).drew⟩
      case measure => simp [intOf]
    · have hlt:3 < T.size:=by omega
      obtain ⟨c,hc⟩:∃ c,c = byt T 3:=⟨_,rfl⟩
      have hc256:c < 256:=by rw [hc];exact byt_lt T 3
      have hcs:(T[3]'hlt).toNat = c:=by rw [hc,byt_of]
      obtain ⟨X,hX⟩:∃ X,X = leL ((strL T).take 3):=⟨_,rfl⟩
      have hXl:X < 16777216:=by rw [hX];exact leL_lt (strL_lt T) 3
      have hXn:leL ((strL T).take (3 + 1)) = X + 16777216 * c:=by rw [hX,hc];exact leL_step hlt
      rw [← hX] at c2 hb4
      have hor:=or32_3 hXl hc256
      obtain ⟨Y,hY⟩:∃ Y,Y = X + 16777216 * c:=⟨_,rfl⟩
      rw [← hY] at hor hXn
      clear hY
      have HXn:=hide hXn
      have HB4:=hide hb4
      clear hX hXn hc hb4
      go_wp2_with fail
      go_region
      go_wp2_with fail
      go_roundw
      case rel => exact ⟨3 + 1,by omega,by first | rfl | go_num,hide (hb0.out.far (p:=⟨w.heap.size + 1 + 1,2,none⟩) (by show w.heap.size ≠ w.heap.size + 1 + 1;omega) _),hide (hb1.out.far (p:=⟨w.heap.size + 1 + 1,2,none⟩) (by show w.heap.size + 1 ≠ w.heap.size + 1 + 1;omega) _),hide (by rw [HXn.out];exact HB4.out.set_ 2 _),hide (hbe.out.setCell (p:=⟨w.heap.size + 1 + 1,2,none⟩) (by show w.heap.size ≤ w.heap.size + 1 + 1;omega) _).drew⟩
      case measure => simp [intOf]
  · obtain rfl:k = 4:=by omega
    have ht4:¬ (T.size:Int) < 4:=by omega
    have hcut2:T.extract 4 T.size = cutS s 18:=strL_inj (by rw [show T.extract 4 T.size = cutS T 4 from rfl,cutS_strL,HT.out,cutS_strL,cutS_strL,List.drop_drop])
    have u0:=hb0.out.set_ 0 (.string (cutS s 18))
    have f0':=hb0.out.free 0
    have u1:=hb1.out.far (p:=⟨w.heap.size,0,none⟩) (by show w.heap.size + 1 ≠ w.heap.size;omega) (.string (cutS s 18))
    have u4:=hb4.out.far (p:=⟨w.heap.size,0,none⟩) (by show w.heap.size + 1 + 1 ≠ w.heap.size;omega) (.string (cutS s 18))
    have ue:=hbe.out.setCell (p:=⟨w.heap.size,0,none⟩) (Nat.le_refl _) (.string (cutS s 18))
    obtain ⟨W3,hW3⟩:∃ W,W = wr.setCell ⟨w.heap.size,0,none⟩ (.string (cutS s 18)):=⟨_,rfl⟩
    have hS4:sum4 (((strL s).drop 14).take 4) = leL ((strL T).take 4):=by
     rw [HT.out,cutS_strL]
     show sum4 (((strL s).drop 14).take 4) = leL (((strL s).drop 14).take 4)
     have hl:(((strL s).drop 14).take 4).length = 4:=by rw [List.length_take,List.length_drop,strL_length];omega
     match hq:((strL s).drop 14).take 4,hl with
     | [x,y,z,v],_ => simp only [sum4,leL,List.getD_cons_zero,List.getD_cons_succ,List.foldr_cons,List.foldr_nil];omega
    obtain ⟨Y,hY⟩:∃ Y,Y = leL ((strL T).take 4):=⟨_,rfl⟩
    rw [← hY] at hS4 u4 c2
    obtain ⟨S18,hS18⟩:∃ S,S = cutS s 18:=⟨_,rfl⟩
    rw [← hS18] at hcut2 u0 u1 u4 ue hW3
    rw [← hW3] at u0 u1 u4 ue
    have HW3:=hide hW3
    have U0:=hide u0
    have U1:=hide u1
    have U4:=hide u4
    have UE:=hide ue
    obtain ⟨a3,ha3⟩:∃ a,a = ofB (((strL s).drop 18).take 5):=⟨_,rfl⟩
    obtain ⟨a4,ha4⟩:∃ a,a = ofB (((strL s).drop (18 + 5)).take 5):=⟨_,rfl⟩
    have g3:=fun (W:World) (h:Bk W w.heap.size 9 #[.string S18]) => fget_at w.heap.size s 18 W (by rw [← hS18];exact h) (by omega)
    have g4:=fun (W:World) (h:Bk W w.heap.size 9 #[.string (cutS s (18 + 5))]) => fget_at w.heap.size s (18 + 5) W h (by omega)
    rw [← ha3] at g3
    rw [← ha4] at g4
    have HG3:=hide g3
    have HG4:=hide g4
    have hF:fieldsL (strL s) = ⟨a1,a2,Y,a3,a4⟩:=by
     rw [HA1.out,HA2.out,ha3,ha4,← hS4];rfl
    have HF:=hide hF
    clear hY hS4 ha3 ha4 g3 g4 hF hS18 u0 u1 u4 ue hW3 hb0 hb1 hb4 hbe HA1 HA2 HT hTs
    go_wp2_with (first
     | (go_at_call 117;rw [← HW3.out];refine (Calls.mono (HG3.out _ U0.out) ?_);rintro e w5 ⟨rfl,hb5,hf5⟩;have HB5:=hide hb5;have HF5:=hide hf5;clear hb5 hf5)
     | (go_at_call 117;refine (Calls.mono (HG4.out _ HB5.out) ?_);rintro e w6 ⟨rfl,hb6,hf6⟩;have HB6:=hide hb6;have HF6:=hide hf6;have k2:=(U4.out.fr HF5.out (by omega)).fr hf6 (by omega);have k1:=(U1.out.fr HF5.out (by omega)).fr hf6 (by omega);obtain ⟨⟨d0,d1,d2,d3,d4⟩,⟨e0,e1,e2,e3,e4⟩⟩:=five_cells k2;obtain ⟨⟨_,_,_,_,_⟩,⟨r0,r1,r2,r3,r4⟩⟩:=five_cells k1;have HK26:=hide k2;have HK16:=hide k1;clear hb6 hf6 k2 k1))
    have m1:=((((((HK16.out.far (p:=⟨w.heap.size + 1 + 1,3,none⟩) (by show w.heap.size + 1 ≠ w.heap.size + 1 + 1;omega) (.int .u64 a3)).far (p:=⟨w.heap.size + 1 + 1,4,none⟩) (by show w.heap.size + 1 ≠ w.heap.size + 1 + 1;omega) (.int .u64 a4)).set_ 0 (.int .u64 a1)).set_ 1 (.int .u64 a2)).set_ 2 (.int .u32 Y)).set_ 3 (.int .u64 a3)).set_ 4 (.int .u64 a4)
    obtain ⟨⟨t0,t1,t2,t3,t4⟩,_⟩:=five_cells m1
    refine bodyPost_ret (v:=headV ⟨a1,a2,Y,a3,a4⟩) (by simp [results,Tryz.results78,go_sem,t0,t1,t2,t3,t4,headV]) rfl ?_
    rw [HF.out]
    refine ⟨rfl, ?_⟩
    have hsz:=U0.out.lt
    have b6:Below w.heap.size w w6:=(UE.out.trans (HF5.out.toBelowB (fun g hg => by omega) (by omega))).trans (HF6.out.toBelowB (fun g hg => by omega) (by have:=HF5.out.size;omega))
    have n1:w.heap.size ≤ w.heap.size + 1:=by omega
    have n2:w.heap.size ≤ w.heap.size + 1 + 1:=by omega
    exact ((((((b6.setCell (p:=⟨w.heap.size + 1 + 1,3,none⟩) n2 _).setCell (p:=⟨w.heap.size + 1 + 1,4,none⟩) n2 _).setCell (p:=⟨w.heap.size + 1,0,none⟩) n1 _).setCell (p:=⟨w.heap.size + 1,1,none⟩) n1 _).setCell (p:=⟨w.heap.size + 1,2,none⟩) n1 _).setCell (p:=⟨w.heap.size + 1,3,none⟩) n1 _).setCell (p:=⟨w.heap.size + 1,4,none⟩) n1 _
def zeroH:Hd:=⟨0,0,0,0,0⟩
def headH (s:List Nat):Hd:=if headW s = 0 then fieldsL s else zeroH
theorem strL_map (s:ByteArray):strL s = s.data.toList.map UInt8.toNat:=by
 apply List.ext_getElem?
 intro i
 rw [List.getElem?_map]
 rcases Nat.lt_or_ge i s.size with g | g
 · rw [strL_get g,← byt_of s g,Array.getElem?_toList,Array.getElem?_eq_getElem (by simpa using g)];rfl
 · rw [List.getElem?_eq_none (by rw [strL_length];exact g),List.getElem?_eq_none (by simpa using g)];rfl
theorem u8_inj {a b:List UInt8} (h:a.map UInt8.toNat = b.map UInt8.toNat):a = b:=(List.map_inj_right (fun _ _ e => UInt8.toNat_inj.1 e)).1 h
theorem prefix_mark (s:ByteArray):Lib.hasPrefix s.data.toList [87,82,71,49] = decide ((strL s).take 4 = markL):=by
 rw [← Lib.hasPrefix_of_take]
 have h1:(strL s).take 4 = (s.data.toList.take 4).map UInt8.toNat:=by rw [strL_map,List.map_take]
 have h2:markL = ([87,82,71,49]:List UInt8).map UInt8.toNat:=rfl
 by_cases h:(strL s).take 4 = markL
 · have h4:=u8_inj (h1.symm.trans (h.trans h2))
   have h5:=congrArg List.length h4
   rw [List.length_take] at h5
   simp only [List.length_cons,List.length_nil] at h5
   rw [decide_eq_true h,Bool.and_eq_true]
   exact ⟨decide_eq_true (by simp only [List.length_cons,List.length_nil];omega),by show (s.data.toList.take 4 == _) = true;rw [h4];decide⟩
 · rw [decide_eq_false h,Bool.and_eq_false_iff]
   right
   rw [beq_eq_false_iff_ne]
   intro e
   apply h
   rw [h1,h2]
   exact congrArg _ e
def HeadP (s:List Nat) (w:World) (e:Ending) (w':World):Prop:=(∃ v,e = .returned (.tuple #[headV (headH s),v]) ∧ ErrV (headW s) w.heap.size v w') ∧ Below w.heap.size w w'
theorem HeadP.bad {s:List Nat} {w w':World} {v:Value} {z:Int} (h:headW s = z) (hz:z ≠ 0) (hv:ErrV z w.heap.size v w') (hb:Below w.heap.size w w'):HeadP s w (.returned (.tuple #[headV zeroH,v])) w':=by
 subst h
 exact ⟨⟨v,by unfold headH;rw [if_neg hz],hv⟩,hb⟩
theorem bytes_eq {V Q:ByteArray}:(V.toList == Q.toList) = decide (V = Q):=by
 rw [Lib.toList_data,Lib.toList_data]
 by_cases h:V = Q
 · subst h;simp
 · rw [decide_eq_false h,beq_eq_false_iff_ne]
   intro e
   apply h
   cases V;cases Q
   simpa using e
def set5 (w:World) (g:Nat) (a b c d e:Value):World:=((((w.setCell ⟨g,0,none⟩ a).setCell ⟨g,1,none⟩ b).setCell ⟨g,2,none⟩ c).setCell ⟨g,3,none⟩ d).setCell ⟨g,4,none⟩ e
theorem set5_bk {w:World} {g:Nat} {t:TypeId} {x0 x1 x2 x3 x4:Value} (h:Bk w g t #[x0,x1,x2,x3,x4]) (a b c d e:Value):Bk (set5 w g a b c d e) g t #[a,b,c,d,e]:=((((h.set_ 0 a).set_ 1 b).set_ 2 c).set_ 3 d).set_ 4 e
theorem set5_far {w:World} {g g':Nat} {t:TypeId} {cs:Array Value} (h:Bk w g' t cs) (hne:g' ≠ g) (a b c d e:Value):Bk (set5 w g a b c d e) g' t cs:=((((h.far (p:=⟨g,0,none⟩) hne a).far (p:=⟨g,1,none⟩) hne b).far (p:=⟨g,2,none⟩) hne c).far (p:=⟨g,3,none⟩) hne d).far (p:=⟨g,4,none⟩) hne e
theorem set5_below {w0 w:World} {B g:Nat} (h:Below B w0 w) (hB:B ≤ g) (a b c d e:Value):Below B w0 (set5 w g a b c d e):=((((h.setCell (p:=⟨g,0,none⟩) hB a).setCell (p:=⟨g,1,none⟩) hB b).setCell (p:=⟨g,2,none⟩) hB c).setCell (p:=⟨g,3,none⟩) hB d).setCell (p:=⟨g,4,none⟩) hB e
theorem set5_err {w:World} {g B:Nat} {z:Int} {v:Value} (h:ErrV z B v w) (hB:g < B) (a b c d e:Value):ErrV z B v (set5 w g a b c d e):=by
 rcases h with h | ⟨h,f,s,h1,h2,h3⟩
 · exact .inl h
 · exact .inr ⟨h,f,s,h1,h2,set5_far h3 (by omega) a b c d e⟩
theorem zero5 {w w1:World} {v:Value} {z:Int} (hk:Bk w1 w.heap.size 25 #[.int .u64 0,.int .u64 0,.int .u32 0,.int .u64 0,.int .u64 0]) (he:ErrV z (w.heap.size + 1) v w1) (hb:Below w.heap.size w w1) :
 Bk (set5 w1 w.heap.size (.int .u64 0) (.int .u64 0) (.int .u32 0) (.int .u64 0) (.int .u64 0)) w.heap.size 25 #[.int .u64 0,.int .u64 0,.int .u32 0,.int .u64 0,.int .u64 0] ∧ ErrV z w.heap.size v (set5 w1 w.heap.size (.int .u64 0) (.int .u64 0) (.int .u32 0) (.int .u64 0) (.int .u64 0)) ∧ Below w.heap.size w (set5 w1 w.heap.size (.int .u64 0) (.int .u64 0) (.int .u32 0) (.int .u64 0) (.int .u64 0)) :=
 ⟨set5_bk hk _ _ _ _ _,(set5_err he (by omega) _ _ _ _ _).mono (by omega),set5_below hb (Nat.le_refl _) _ _ _ _ _⟩
set_option maxHeartbeats 4000000 in
theorem head_any (s:ByteArray) (w:World) (h64:s.size ≤ 1000000):Calls Tryz.prog 43 #[.string s] w (HeadP (strL s) w):=by
 have wr:=fun (t:ByteArray) (z:Int) (W:World) => wrong_any t z W
 have HWr:=hide wr
 have zb:=five_cells (Bk.new w 25 #[.int .u64 0,.int .u64 0,.int .u32 0,.int .u64 0,.int .u64 0])
 have hk:=Bk.new w 25 #[.int .u64 0,.int .u64 0,.int .u32 0,.int .u64 0,.int .u64 0]
 have hbe:Below w.heap.size w (w.alloc (.cells #[.int .u64 0,.int .u64 0,.int .u32 0,.int .u64 0,.int .u64 0] 25)):=(Below.refl _ w).alloc (Nat.le_refl _) _
 have HK:=hide hk
 have HBe:=hide hbe
 clear wr zb hk hbe
 by_cases g1:s.size < 32
 · have hz:headW (strL s) = 5:=by unfold headW;rw [if_pos (by rw [strL_length];exact g1)]
   have HZ:=hide hz
   have g1':(s.size:Int) < 32:=by omega
   clear hz
   go_enter Tryz.func43,Tryz.ntmps43
   go_wp2_with (go_at_call 74;refine (Calls.mono (HWr.out _ _ _) ?_);rintro e w1 ⟨⟨v1,rfl,he1⟩,hb1⟩;have k1:=HK.out.keep hb1;obtain ⟨⟨c0,c1,c2,c3,c4⟩,⟨f0,f1,f2,f3,f4⟩⟩:=five_cells k1;have HK1:=hide k1;have HE1:=hide he1;have HB1:=hide hb1;clear k1 he1 hb1)
   obtain ⟨m1,m2,m3⟩:=zero5 (z:=5) HK1.out (by have:=HE1.out;simp only [World.size_alloc] at this;exact this) (HBe.out.trans (HB1.out.mono (by simp)))
   obtain ⟨⟨t0,t1,t2,t3,t4⟩,_⟩:=five_cells m1
   unfold set5 at t0 t1 t2 t3 t4
   refine bodyPost_ret (v:=.tuple #[headV zeroH,v1]) (by simp [results,Tryz.results43,go_sem,t0,t1,t2,t3,t4,headV,zeroH]) rfl ?_
   exact HeadP.bad HZ.out (by decide) m2 m3
 have d1:¬ (s.size:Int) < 32:=by omega
 by_cases g2:65536 < s.size
 · have hz:headW (strL s) = 1:=by unfold headW;rw [strL_length,if_neg g1,if_pos g2]
   have HZ:=hide hz
   have g2':(65536:Int) < (s.size:Int):=by omega
   clear hz
   go_enter Tryz.func43,Tryz.ntmps43
   go_wp2_with (go_at_call 74;refine (Calls.mono (HWr.out _ _ _) ?_);rintro e w1 ⟨⟨v1,rfl,he1⟩,hb1⟩;have k1:=HK.out.keep hb1;obtain ⟨⟨c0,c1,c2,c3,c4⟩,⟨f0,f1,f2,f3,f4⟩⟩:=five_cells k1;have HK1:=hide k1;have HE1:=hide he1;have HB1:=hide hb1;clear k1 he1 hb1)
   obtain ⟨m1,m2,m3⟩:=zero5 (z:=1) HK1.out (by have:=HE1.out;simp only [World.size_alloc] at this;exact this) (HBe.out.trans (HB1.out.mono (by simp)))
   obtain ⟨⟨t0,t1,t2,t3,t4⟩,_⟩:=five_cells m1
   unfold set5 at t0 t1 t2 t3 t4
   refine bodyPost_ret (v:=.tuple #[headV zeroH,v1]) (by simp [results,Tryz.results43,go_sem,t0,t1,t2,t3,t4,headV,zeroH]) rfl ?_
   exact HeadP.bad HZ.out (by decide) m2 m3
 have d2:¬ (65536:Int) < (s.size:Int):=by omega
 have pf:=fun (W:World) => Tryz.strings_HasPrefix s ⟨#[87,82,71,49]⟩ W
 have pm:=prefix_mark s
 by_cases g3:(strL s).take 4 = markL
 · rw [decide_eq_true g3] at pm
   replace pf:∀ (W:World),Calls Tryz.prog 77 #[.string s,.string ⟨#[87,82,71,49]⟩] W fun e w' => e = .returned (.bool true) ∧ w' = W:=fun W => by
    have:=pf W
    rw [show (ByteArray.mk #[87,82,71,49]).data.toList = [87,82,71,49] from rfl,pm] at this
    exact this
   have HPf:=hide pf
   obtain ⟨n,hn⟩:∃ n,s.size = n + 4:=⟨s.size - 4,by omega⟩
   have hnI:(s.size:Int) - 4 = (n:Int):=by omega
   have hP:strL (s.extract 0 n) = (strL s).take ((strL s).length - 4):=by rw [strL_sub,List.drop_zero,strL_length,hn,Nat.add_sub_cancel]
   have hQ:strL (s.extract n s.size) = (strL s).drop ((strL s).length - 4):=by rw [strL_sub,List.take_of_length_le (by rw [strL_length];exact Nat.le_refl _),strL_length,hn,Nat.add_sub_cancel]
   have hPs:(s.extract 0 n).size ≤ 1000000:=by rw [← strL_length,hP,List.length_take,strL_length];omega
   have hW:headW (strL s) = if tail4 (crcS (strL (s.extract 0 n))) ≠ strL (s.extract n s.size) then 6 else 0:=by
    rw [hP,hQ];unfold headW;rw [strL_length,if_neg g1,if_neg g2,if_neg (by rw [g3];exact fun h => h rfl)]
   obtain ⟨P,hPe⟩:∃ P,P = s.extract 0 n:=⟨_,rfl⟩
   obtain ⟨Q,hQe⟩:∃ Q,Q = s.extract n s.size:=⟨_,rfl⟩
   rw [← hPe] at hW hPs
   rw [← hQe] at hW
   have sm:=fun (W:World) (b:Nat) (h:W.cell? ⟨b,0,none⟩ = some (.string P)) => sum_one b 0 1 P W h (by omega)
   have tl:=fun (W:World) => tail_any (crcS (strL P)) W (crcS_lt _)
   obtain ⟨C,hC⟩:∃ C,C = crcS (strL P):=⟨_,rfl⟩
   rw [← hC] at hW sm tl
   obtain ⟨V,hV⟩:∃ V,V = strOf (tail4 C):=⟨_,rfl⟩
   rw [← hV] at tl
   have hVQ:tail4 C = strL Q ↔ V = Q:=by
    rw [hV]
    constructor
    · intro e;rw [e,strOf_strL]
    · intro e;rw [← e,strL_of (tail4_lt C)]
   have HSm1:=hide (sm (((w.alloc (.cells #[.int .u64 0,.int .u64 0,.int .u32 0,.int .u64 0,.int .u64 0] 25)).alloc (.cells #[.string P] 9)).drew) (w.heap.size + 1) (((Bk.new1 w _ _ _).cell 0).trans rfl))
   have HTl:=hide tl
   have hPx:=hPe.symm
   have hQx:=hQe.symm
   have hnle:(n:Int) ≤ (s.size:Int):=by omega
   have hnle2:n ≤ s.size:=by omega
   have HN:=hide hn
   clear pm pf hP hQ sm tl hC hV hPe hQe g3 hn
   by_cases g4:V = Q
   · rw [if_neg (by rw [hVQ.2 g4];exact fun h => h rfl)] at hW
     have HZ:=hide hW
     have hvq:(V.toList == Q.toList) = true:=by rw [bytes_eq];exact decide_eq_true g4
     have fl:=fun (W:World) => fields_any s W (by omega) h64
     have HFl:=hide fl
     clear hVQ hW g4 fl
     go_enter Tryz.func43,Tryz.ntmps43
     go_wp2_with (first
      | (go_at_call 77;refine (Calls.mono (HPf.out _) ?_);rintro e w1 ⟨rfl,rfl⟩))
     go_region_held3 (fun _ => True) (first | exact trivial | exact True.intro)
      (first
      | (go_at_call 18;refine (Calls.mono HSm1.out ?_);rintro e w1 ⟨rfl,rfl⟩)
      | (go_at_call 37;refine (Calls.mono (HTl.out _) ?_);rintro e w2 ⟨rfl,hb2⟩))
     have hk2:Bk w2 w.heap.size 25 #[.int .u64 0,.int .u64 0,.int .u32 0,.int .u64 0,.int .u64 0]:=((HK.out.alloc (.cells #[.string P] 9)).drew).keep hb2
     have hbe2:Below w.heap.size w w2:=((HBe.out.alloc (by simp) (.cells #[.string P] 9)).drew).trans (hb2.mono (by simp;omega))
     have hz2:w.heap.size + 1 ≤ w2.heap.size:=by have:=hk2.lt;omega
     have HK2:=hide hk2
     have HBe2:=hide hbe2
     clear hk2 hbe2 hb2
     obtain ⟨H,hH⟩:∃ H,H = fieldsL (strL s):=⟨_,rfl⟩
     rw [← hH] at HFl
     have HH:=hide hH
     clear hH
     obtain ⟨x0,x1,x2,x3,x4⟩:=H
     unfold headV at HFl
     go_wp2_with (go_at_call 78;refine (Calls.mono (HFl.out _) ?_);rintro e w3 ⟨rfl,hb3⟩;have k1:=HK2.out.keep hb3;obtain ⟨⟨c0,c1,c2,c3,c4⟩,⟨f0,f1,f2,f3,f4⟩⟩:=five_cells k1;have HK3:=hide k1;have HB3:=hide hb3;clear k1 hb3)
     have m1:=set5_bk HK3.out (.int .u64 x0) (.int .u64 x1) (.int .u32 x2) (.int .u64 x3) (.int .u64 x4)
     obtain ⟨⟨t0,t1,t2,t3,t4⟩,_⟩:=five_cells m1
     unfold set5 at t0 t1 t2 t3 t4
     refine bodyPost_ret (v:=.tuple #[headV ⟨x0,x1,x2,x3,x4⟩,.nilIface]) (by simp [results,Tryz.results43,go_sem,t0,t1,t2,t3,t4,headV]) rfl ?_
     refine ⟨⟨.nilIface, ?_,.inl ⟨HZ.out,rfl⟩⟩,set5_below (HBe2.out.trans (HB3.out.mono (by omega))) (Nat.le_refl _) (.int .u64 x0) (.int .u64 x1) (.int .u32 x2) (.int .u64 x3) (.int .u64 x4)⟩
     unfold headH
     rw [if_pos HZ.out,← HH.out]
   · rw [if_pos (fun e => g4 (hVQ.1 e))] at hW
     have HZ:=hide hW
     have hvq:(V.toList == Q.toList) = false:=by rw [bytes_eq];exact decide_eq_false g4
     clear hVQ hW g4
     go_enter Tryz.func43,Tryz.ntmps43
     go_wp2_with (first
      | (go_at_call 77;refine (Calls.mono (HPf.out _) ?_);rintro e w1 ⟨rfl,rfl⟩)
      | (go_at_call 74;refine (Calls.mono (HWr.out _ _ _) ?_);rintro e w1 ⟨⟨v1,rfl,he1⟩,hb1⟩;have k1:=HK.out.keep hb1;obtain ⟨⟨c0,c1,c2,c3,c4⟩,⟨f0,f1,f2,f3,f4⟩⟩:=five_cells k1;have HK1:=hide k1;have HE1:=hide he1;have HB1:=hide hb1;clear k1 he1 hb1))
     go_region_held3 (fun _ => True) (first | exact trivial | exact True.intro)
      (first
      | (go_at_call 18;refine (Calls.mono HSm1.out ?_);rintro e w1 ⟨rfl,rfl⟩)
      | (go_at_call 37;refine (Calls.mono (HTl.out _) ?_);rintro e w2 ⟨rfl,hb2⟩))
     have hk2:Bk w2 w.heap.size 25 #[.int .u64 0,.int .u64 0,.int .u32 0,.int .u64 0,.int .u64 0]:=((HK.out.alloc (.cells #[.string P] 9)).drew).keep hb2
     have hbe2:Below w.heap.size w w2:=((HBe.out.alloc (by simp) (.cells #[.string P] 9)).drew).trans (hb2.mono (by simp;omega))
     have hz2:w.heap.size + 1 ≤ w2.heap.size:=by have:=hk2.lt;omega
     have HK2:=hide hk2
     have HBe2:=hide hbe2
     clear hk2 hbe2 hb2
     go_wp2_with (go_at_call 74;refine (Calls.mono (HWr.out _ _ _) ?_);rintro e w1 ⟨⟨v1,rfl,he1⟩,hb1⟩;have k1:=HK2.out.keep hb1;obtain ⟨⟨c0,c1,c2,c3,c4⟩,⟨f0,f1,f2,f3,f4⟩⟩:=five_cells k1;have HK1:=hide k1;have HE1:=hide he1;have HB1:=hide hb1;clear k1 he1 hb1)
     obtain ⟨m1,m2,m3⟩:=zero5 (z:=6) HK1.out (HE1.out.mono hz2) (HBe2.out.trans (HB1.out.mono (by omega)))
     obtain ⟨⟨t0,t1,t2,t3,t4⟩,_⟩:=five_cells m1
     unfold set5 at t0 t1 t2 t3 t4
     refine bodyPost_ret (v:=.tuple #[headV zeroH,v1]) (by simp [results,Tryz.results43,go_sem,t0,t1,t2,t3,t4,headV,zeroH]) rfl ?_
     exact HeadP.bad HZ.out (by decide) m2 m3
 · rw [decide_eq_false g3] at pm
   replace pf:∀ (W:World),Calls Tryz.prog 77 #[.string s,.string ⟨#[87,82,71,49]⟩] W fun e w' => e = .returned (.bool false) ∧ w' = W:=fun W => by
    have:=pf W
    rw [show (ByteArray.mk #[87,82,71,49]).data.toList = [87,82,71,49] from rfl,pm] at this
    exact this
   have HPf:=hide pf
   have hz:headW (strL s) = 2:=by unfold headW;rw [strL_length,if_neg g1,if_neg g2,if_pos g3]
   have HZ:=hide hz
   clear hz pm pf
   go_enter Tryz.func43,Tryz.ntmps43
   go_wp2_with (first
    | (go_at_call 77;refine (Calls.mono (HPf.out _) ?_);rintro e w1 ⟨rfl,rfl⟩)
    | (go_at_call 74;refine (Calls.mono (HWr.out _ _ _) ?_);rintro e w1 ⟨⟨v1,rfl,he1⟩,hb1⟩;have k1:=HK.out.keep hb1;obtain ⟨⟨c0,c1,c2,c3,c4⟩,⟨f0,f1,f2,f3,f4⟩⟩:=five_cells k1;have HK1:=hide k1;have HE1:=hide he1;have HB1:=hide hb1;clear k1 he1 hb1))
   obtain ⟨m1,m2,m3⟩:=zero5 (z:=2) HK1.out (by have:=HE1.out;simp only [World.size_alloc] at this;exact this) (HBe.out.trans (HB1.out.mono (by simp)))
   obtain ⟨⟨t0,t1,t2,t3,t4⟩,_⟩:=five_cells m1
   unfold set5 at t0 t1 t2 t3 t4
   refine bodyPost_ret (v:=.tuple #[headV zeroH,v1]) (by simp [results,Tryz.results43,go_sem,t0,t1,t2,t3,t4,headV,zeroH]) rfl ?_
   exact HeadP.bad HZ.out (by decide) m2 m3
set_option maxHeartbeats 1000000 in
theorem put_any_b (b n:Nat) (l:List Nat) (w:World) (h:Bd w b l) (hl:l.length ≤ 1000000) :
 Calls Tryz.prog 69 #[.int .u64 n,.pointer (some ⟨b,0,none⟩)] w fun e w' => e = .returned (.tuple #[]) ∧ Bd w' b (l ++ five n) ∧ Below b w w':=by
 have fv:=fun (W:World) => five_any n W
 have hfl:(five n).length = 5:=rfl
 obtain ⟨L,hL⟩:∃ L,L = five n:=⟨_,rfl⟩
 have bw:=fun (W:World) (g:Nat) (hb:Bd W b l) (hg:g ≠ b) (hr:∀ i u,L[i]? = some u → W.cell? ⟨g,0 + i,none⟩ = some (.int .u8 (u:Nat))) => bwWrite b g 0 5 5 l L W hb (by omega) (by rw [hL];rfl) (by decide) hg hr (by decide)
 have hlt:=h.lt
 have HFv:=hide fv
 have HBw:=hide bw
 have HD:=hide h
 have HL:=hide hL
 obtain ⟨a0,a1,a2,a3,a4,hL5⟩:∃ a0 a1 a2 a3 a4,L = [a0,a1,a2,a3,a4]:=⟨_,_,_,_,_,hL⟩
 have fv2:∀ (W:World),Calls Tryz.prog 70 #[.int .u64 n] W fun e w' => e = .returned (.agg #[.int .u8 a0,.int .u8 a1,.int .u8 a2,.int .u8 a3,.int .u8 a4]) ∧ Below W.heap.size W w':=fun W => by
  have:=fv W
  unfold fiveV at this
  rw [← hL,hL5] at this
  exact this
 have HFv2:=hide fv2
 subst hL5
 rw [← HL.out]
 have hbk:∀ W1:World,Below w.heap.size w W1 → Bd (W1.alloc (.cells #[.int .u8 a0,.int .u8 a1,.int .u8 a2,.int .u8 a3,.int .u8 a4] 111)) b l ∧ Below b w (W1.alloc (.cells #[.int .u8 a0,.int .u8 a1,.int .u8 a2,.int .u8 a3,.int .u8 a4] 111)) ∧ ∀ i u,[a0,a1,a2,a3,a4][i]? = some u → (W1.alloc (.cells #[.int .u8 a0,.int .u8 a1,.int .u8 a2,.int .u8 a3,.int .u8 a4] 111)).cell? ⟨W1.heap.size,0 + i,none⟩ = some (.int .u8 (u:Nat)):=fun W1 hb => by
  have hb2:=hb.alloc hb.size (.cells #[.int .u8 a0,.int .u8 a1,.int .u8 a2,.int .u8 a3,.int .u8 a4] 111)
  refine ⟨HD.out.below hb2,hb2.mono (by omega),fun i u hi => ?_⟩
  have hk:=Bk.new W1 111 (vby [a0,a1,a2,a3,a4]).toArray
  have:=hk.cell i
  rw [Nat.zero_add]
  refine this.trans ?_
  rw [List.getElem?_toArray]
  unfold vby
  rw [List.getElem?_map,hi];rfl
 have HBk:=hide hbk
 clear fv fv2 bw h hL hbk HFv
 go_enter Tryz.func69,Tryz.ntmps69
 go_wp2_with (first
  | (go_at_call 70;refine (Calls.mono (HFv2.out _) ?_);rintro e w1 ⟨rfl,hb1⟩;have hx:=HBk.out w1 hb1;obtain ⟨x1,x2,x3⟩:=hx;have HX1:=hide x1;have HX2:=hide x2;have HX3:=hide x3;have hz1:=hb1.size;clear hb1 x1 x2 x3)
  | (go_at_call 71;refine (Calls.mono (HBw.out _ w1.heap.size HX1.out (by omega) HX3.out) ?_);rintro e w2 ⟨⟨k2,rfl⟩,hd2,hb2⟩;have HD2:=hide hd2;have HB2:=hide hb2;clear hd2 hb2))
 go_end0
 exact ⟨rfl,HD2.out,HX2.out.trans HB2.out⟩
theorem mark_str:strL ⟨#[87,82,71,49]⟩ = markL:=by decide +kernel
set_option maxHeartbeats 4000000 in
theorem front_any (h:Hd) (w:World) (hs:h.sum < 4294967296):Calls Tryz.prog 36 #[headV h] w fun e w' => e = .returned (.string (strOf (frontL h))) ∧ Below w.heap.size w w':=by
 obtain ⟨x0,x1,x2,x3,x4⟩:=h
 have hs':x2 < 4294967296:=hs
 have eg:∀ args w,(callFunc 69 args).run Tryz.prog w = .ok (.enter 69 args) w:=enters_of Tryz.func69 (by kernel_rfl) rfl
 have hmf:∀ (fn:Fn) (first cap:Array Value) (w:World),(Instr.makeFunc fn first cap).run Tryz.prog w = .ok (.func fn first cap) w:=fun _ _ _ _ => rfl
 have pt:=fun (n:Nat) (l:List Nat) (W:World) (h:Bd W (w.heap.size + 1) l) (hl:l.length ≤ 1000) => put_any_b (w.heap.size + 1) n l W h (by omega)
 have ws:=fun (l:List Nat) (s:ByteArray) (W:World) (h:Bd W (w.heap.size + 1) l) (hl:l.length + s.size ≤ 1000) => bwString (w.heap.size + 1) l s W h (by omega)
 have tl:=fun (W:World) => tail_any x2 W hs'
 have k0:Bk ((w.alloc (.cells #[.int .u64 x0,.int .u64 x1,.int .u32 x2,.int .u64 x3,.int .u64 x4] 25)).alloc (.cells #[.pointer none,.slice none 0 0] 85)) w.heap.size 25 #[.int .u64 x0,.int .u64 x1,.int .u32 x2,.int .u64 x3,.int .u64 x4]:=(Bk.new w _ _).alloc _
 have d0:Bd ((w.alloc (.cells #[.int .u64 x0,.int .u64 x1,.int .u32 x2,.int .u64 x3,.int .u64 x4] 25)).alloc (.cells #[.pointer none,.slice none 0 0] 85)) (w.heap.size + 1) []:=by
  have:=Bd.new (w.alloc (.cells #[.int .u64 x0,.int .u64 x1,.int .u32 x2,.int .u64 x3,.int .u64 x4] 25))
  rwa [World.size_alloc] at this
 have be0:Below w.heap.size w ((w.alloc (.cells #[.int .u64 x0,.int .u64 x1,.int .u32 x2,.int .u64 x3,.int .u64 x4] 25)).alloc (.cells #[.pointer none,.slice none 0 0] 85)):=((Below.refl _ w).alloc (Nat.le_refl _) _).alloc (by simp) _
 have wm:∀ (W:World),Bd W (w.heap.size + 1) [] → Calls Tryz.prog 51 #[.pointer (some ⟨w.heap.size + 1,0,none⟩),.string ⟨#[87,82,71,49]⟩] W fun e w' => (∃ k:Int,e = .returned (.tuple #[.int .i64 k,.nilIface])) ∧ Bd w' (w.heap.size + 1) markL ∧ Below (w.heap.size + 1) W w':=fun W h => by
  have:=ws [] ⟨#[87,82,71,49]⟩ W h (by decide)
  rw [mark_str,List.nil_append] at this
  exact this
 have HWm:=hide wm
 have HPt:=hide pt
 have HWs:=hide ws
 have HTl:=hide tl
 have K0:=hide k0
 have D0:=hide d0
 have B0:=hide be0
 have N1:Hid ((markL).length ≤ 1000):=hide (by simp [markL])
 have N2:Hid ((markL ++ five x0).length ≤ 1000):=hide (by simp [markL,five])
 have N5:Hid ((markL ++ five x0 ++ five x1 ++ tail4 x2).length ≤ 1000):=hide (by simp [markL,five,tail4])
 have N6:Hid ((markL ++ five x0 ++ five x1 ++ tail4 x2 ++ five x3).length ≤ 1000):=hide (by simp [markL,five,tail4])
 have N3:Hid ((markL ++ five x0 ++ five x1).length + (strOf (tail4 x2)).size ≤ 1000):=hide (by rw [strOf_size];simp [markL,five,tail4])
 clear pt ws wm tl k0 d0 be0
 unfold headV
 go_enter Tryz.func36,Tryz.ntmps36
 go_upto_region 4 with (go_at_call 51;refine (Calls.mono (HWm.out _ D0.out) ?_);rintro e w1 ⟨⟨k1,rfl⟩,hd1,hb1⟩;have K1:=hide (K0.out.below hb1 (by omega));have D1:=hide hd1;have B1:=hide (B0.out.trans (hb1.mono (by omega)));clear hd1 hb1;have hc1:=five_cells K1.out;clear K0 D0 B0;obtain ⟨⟨c0,c1,c2,c3,c4⟩,hcf⟩:=hc1;clear hcf)
 go_upto_region 5 with (go_at_call 69;refine (Calls.mono (HPt.out x0 (markL) _ D1.out N1.out) ?_);rintro e w2 ⟨rfl,hd2,hb2⟩;have K2:=hide (K1.out.below hb2 (by omega));have D2:=hide hd2;have B2:=hide (B1.out.trans (hb2.mono (by omega)));clear hd2 hb2;have hc2:=five_cells K2.out;clear c0 c1 c2 c3 c4 K1 D1 B1;obtain ⟨⟨c0,c1,c2,c3,c4⟩,hcf⟩:=hc2;clear hcf)
 go_upto_region 6 with (go_at_call 69;refine (Calls.mono (HPt.out x1 (markL ++ five x0) _ D2.out N2.out) ?_);rintro e w3 ⟨rfl,hd3,hb3⟩;have K3:=hide (K2.out.below hb3 (by omega));have D3:=hide hd3;have B3:=hide (B2.out.trans (hb3.mono (by omega)));clear hd3 hb3;have hc3:=five_cells K3.out;clear c0 c1 c2 c3 c4 K2 D2 B2;obtain ⟨⟨c0,c1,c2,c3,c4⟩,hcf⟩:=hc3;clear hcf)
 go_upto_region 7 with (first | (go_at_call 51;refine (Calls.mono (HWs.out (markL ++ five x0 ++ five x1) (strOf (tail4 x2)) _ D4.out N3.out) ?_);rintro e w5 ⟨⟨k5,rfl⟩,hd5,hb5⟩;rw [strL_of (tail4_lt x2)] at hd5;have K5:=hide (K4.out.below hb5 (by omega));have D5:=hide hd5;have B5:=hide (B4.out.trans (hb5.mono (by omega)));clear hd5 hb5;have hc5:=five_cells K5.out;clear c0 c1 c2 c3 c4 K4 D4 B4;obtain ⟨⟨c0,c1,c2,c3,c4⟩,hcf⟩:=hc5;clear hcf) | (go_at_call 37;refine (Calls.mono (HTl.out _) ?_);rintro e w4 ⟨rfl,hb4⟩;have K4:=hide (K3.out.keep hb4);have D4:=hide (D3.out.below hb4);have B4:=hide (B3.out.trans (hb4.mono B3.out.size));clear hb4;have hc4:=five_cells K4.out;clear c0 c1 c2 c3 c4 K3 D3 B3;obtain ⟨⟨c0,c1,c2,c3,c4⟩,hcf⟩:=hc4;clear hcf))
 go_upto_region 8 with (go_at_call 69;refine (Calls.mono (HPt.out x3 (markL ++ five x0 ++ five x1 ++ tail4 x2) _ D5.out N5.out) ?_);rintro e w6 ⟨rfl,hd6,hb6⟩;have K6:=hide (K5.out.below hb6 (by omega));have D6:=hide hd6;have B6:=hide (B5.out.trans (hb6.mono (by omega)));clear hd6 hb6;have hc6:=five_cells K6.out;clear c0 c1 c2 c3 c4 K5 D5 B5;obtain ⟨⟨c0,c1,c2,c3,c4⟩,hcf⟩:=hc6;clear hcf)
 go_upto_region 9 with (go_at_call 69;refine (Calls.mono (HPt.out x4 (markL ++ five x0 ++ five x1 ++ tail4 x2 ++ five x3) _ D6.out N6.out) ?_);rintro e w7 ⟨rfl,hd7,hb7⟩;have K7:=hide (K6.out.below hb7 (by omega));have D7:=hide hd7;have B7:=hide (B6.out.trans (hb7.mono (by omega)));clear hd7 hb7;have hc7:=five_cells K7.out;clear c0 c1 c2 c3 c4 K6 D6 B6;obtain ⟨⟨c0,c1,c2,c3,c4⟩,hcf⟩:=hc7;clear hcf)
 go_wp2_with (go_at_call 52;refine (Calls.mono (bString (w.heap.size + 1) (frontL ⟨x0,x1,x2,x3,x4⟩) w7 D7.out (frontL_lt ⟨x0,x1,x2,x3,x4⟩)) ?_);rintro e w8 ⟨rfl,hb8⟩;have B8:=hide (B7.out.trans (hb8.mono (by omega)));clear hb8)
 go_ret
 exact ⟨rfl,B8.out⟩
def beyB (h:Hd):Bool:=decide (1099511627776 ≤ max (max h.cnt h.prim) h.segs)
theorem beyond_any (h:Hd) (w:World):Calls Tryz.prog 35 #[headV h] w fun e w' => e = .returned (.bool (beyB h)) ∧ Below w.heap.size w w':=by
 obtain ⟨x0,x1,x2,x3,x4⟩:=h
 have hm:max (max (x0:Int) (x1:Int)) (x3:Int) = ((max (max x0 x1) x3:Nat):Int):=by omega
 obtain ⟨M,hM⟩:∃ M,M = max (max x0 x1) x3:=⟨_,rfl⟩
 show Calls Tryz.prog 35 _ w fun e w' => e = .returned (.bool (decide (1099511627776 ≤ max (max x0 x1) x3))) ∧ _
 rw [← hM] at hm ⊢
 unfold headV
 have hd:decide ((1099511627776:Int) ≤ (M:Int)) = decide (1099511627776 ≤ M):=by
  by_cases h:1099511627776 ≤ M
  · rw [decide_eq_true h,decide_eq_true (by omega)]
  · rw [decide_eq_false h,decide_eq_false (by omega)]
 obtain ⟨B,hB⟩:∃ B,B = decide (1099511627776 ≤ M):=⟨_,rfl⟩
 rw [← hB] at hd ⊢
 have HB:=hide hB
 have HM:=hide hM
 clear hM hB hm hd
 go_enter Tryz.func35,Tryz.ntmps35
 go_wp2_with fail
 all_goals
  go_ret
  refine ⟨ret_bool ?_,(Below.refl _ _).alloc (Nat.le_refl _) _⟩
  have h1:=HM.out
  rw [HB.out]
  exact decide_eq_decide.2 (by omega)
def sealW (h:Hd) (b:ByteArray) (N:Int):Int:=if rightB b N = true then (if beyB h = true ∨ (h.bits:Int) ≠ N then 1 else if 65504 < b.size then 8 else 0) else 2
def SealP (h:Hd) (b:ByteArray) (N:Int) (w:World) (e:Ending) (w':World):Prop:=e = .returned (.tuple #[.string (if sealW h b N = 0 then strOf (sealL h (strL b)) else ⟨#[]⟩),.int .i64 (sealW h b N)]) ∧ Below w.heap.size w w'
theorem SealP.bad {h:Hd} {b:ByteArray} {N z:Int} {w w':World} (hz:sealW h b N = z) (h0:z ≠ 0) (hb:Below w.heap.size w w'):SealP h b N w (.returned (.tuple #[.string ⟨#[]⟩,.int .i64 z])) w':=by
 subst hz;unfold SealP;rw [if_neg h0];exact ⟨rfl,hb⟩
theorem SealP.good {h:Hd} {b:ByteArray} {N:Int} {w w':World} {S:ByteArray} (hz:sealW h b N = 0) (hS:S = strOf (sealL h (strL b))) (hb:Below w.heap.size w w'):SealP h b N w (.returned (.tuple #[.string S,.int .i64 0])) w':=by
 unfold SealP;rw [if_pos hz,hz,hS];exact ⟨rfl,hb⟩
theorem strL_app (a b:ByteArray):strL (a ++ b) = strL a ++ strL b:=by
 rw [strL_map,strL_map,strL_map,← List.map_append]
 congr 1
set_option maxHeartbeats 4000000 in
theorem seal_any (h:Hd) (b:ByteArray) (N:Int) (w:World) (hs:h.sum < 4294967296) (hN:I64 N) (hb:b.size ≤ 4611686018427387903):Calls Tryz.prog 14 #[headV h,bstr b N] w (SealP h b N w):=by
 have ck:=fun (W:World) => check_any b N W hN (by omega)
 have hW:sealW h b N = if rightB b N = true then (if beyB h = true ∨ (h.bits:Int) ≠ N then 1 else if 65504 < b.size then 8 else 0) else 2:=rfl
 have by_:=fun (W:World) => beyond_any h W
 have fr:=fun (W:World) => front_any h W hs
 by_cases g1:rightB b N = true
 · rw [if_pos g1] at hW
   have hck:chkB b N = 0:=by unfold chkB;rw [if_pos g1]
   rw [hck] at ck
   have hR:=rightB_n g1
   obtain ⟨n,hn⟩:∃ n:Nat,N = n:=⟨N.toNat,by omega⟩
   obtain ⟨S,hS⟩:∃ S,S = strOf (frontL h):=⟨_,rfl⟩
   have hSl:strL S = frontL h:=by rw [hS];exact strL_of (frontL_lt h)
   rw [← hS] at fr
   have hS28:S.size = 28:=by rw [← strL_length,hSl];rfl
   have hcat:S.size + b.size ≤ 9223372036854775807:=by omega
   have hcat2:(9223372036854775807 < S.size + b.size) = False:=eq_false (by omega)
   have HSl:=hide hSl
   have HS28:=hide hS28
   clear hS28
   subst hn
   have hn20:(n:Int) ≤ 1048576:=hR.2.1
   obtain ⟨x0,x1,x2,x3,x4⟩:=h
   obtain ⟨B,hB⟩:∃ B,B = beyB ⟨x0,x1,x2,x3,x4⟩:=⟨_,rfl⟩
   rw [← hB] at hW by_
   have hW2:sealW ⟨x0,x1,x2,x3,x4⟩ b n = if B = true ∨ (x4:Int) ≠ (n:Int) then 1 else if 65504 < b.size then 8 else 0:=hW
   unfold headV at by_ fr ⊢
   have HCk:=hide ck
   have HBy:=hide by_
   have HFr:=hide fr
   have HBe:Hid (Below w.heap.size w ((w.alloc (.cells #[.int .u64 x0,.int .u64 x1,.int .u32 x2,.int .u64 x3,.int .u64 x4] 25)).alloc (.cells #[.string b,.int .i64 n] 27))):=hide (((Below.refl _ w).alloc (Nat.le_refl _) _).alloc (by simp) _)
   have HK1:=hide (show Bk ((w.alloc (.cells #[.int .u64 x0,.int .u64 x1,.int .u32 x2,.int .u64 x3,.int .u64 x4] 25)).alloc (.cells #[.string b,.int .i64 n] 27)) w.heap.size 25 #[.int .u64 x0,.int .u64 x1,.int .u32 x2,.int .u64 x3,.int .u64 x4] from (Bk.new w _ _).alloc _)
   have HK2:=hide (show Bk ((w.alloc (.cells #[.int .u64 x0,.int .u64 x1,.int .u32 x2,.int .u64 x3,.int .u64 x4] 25)).alloc (.cells #[.string b,.int .i64 n] 27)) (w.heap.size + 1) 27 #[.string b,.int .i64 n] from Bk.new1 w _ _ _)
   clear ck by_ fr hW hck hS hSl hB g1 hR
   cases B with
   | true =>
     rw [if_pos (.inl rfl)] at hW2
     have HZ:=hide hW2
     clear hW2
     go_enter Tryz.func14,Tryz.ntmps14
     go_wp2_with (first
      | (go_at_call 34;refine (Calls.mono (HCk.out _) ?_);rintro e w3 ⟨rfl,hb3⟩;have k1:=HK1.out.keep hb3;have k2:=HK2.out.keep hb3;obtain ⟨⟨c0,c1,c2,c3,c4⟩,_⟩:=five_cells k1;obtain ⟨c5,c6⟩:=two_cells k2;have K31:=hide k1;have K32:=hide k2;have HB3:=hide (HBe.out.trans (hb3.mono (by simp;omega)));have hz3:=k2.lt;clear hb3 k1 k2)
      | (go_at_call 35;refine (Calls.mono (HBy.out _) ?_);rintro e w4 ⟨rfl,hb4⟩;have k1:=K31.out.keep hb4;have k2:=K32.out.keep hb4;clear c0 c1 c2 c3 c4 c5 c6;obtain ⟨⟨c0,c1,c2,c3,c4⟩,_⟩:=five_cells k1;obtain ⟨c5,c6⟩:=two_cells k2;have K41:=hide k1;have K42:=hide k2;have HB4:=hide (HB3.out.trans (hb4.mono (by omega)));have hz4:=k2.lt;clear hb4 k1 k2))
     go_ret2
     exact SealP.bad HZ.out (by decide) HB4.out
   | false =>
     by_cases g2:(x4:Int) = (n:Int)
     · rw [if_neg (by rintro (h | h);cases h;exact h g2)] at hW2
       obtain rfl:x4 = n:=by omega
       by_cases g3:65504 < b.size
       · rw [if_pos g3] at hW2
         have HZ:=hide hW2
         have g3':(65504:Int) < (b.size:Int):=by omega
         clear hW2
         go_enter Tryz.func14,Tryz.ntmps14
         go_wp2_with (first
          | (go_at_call 34;refine (Calls.mono (HCk.out _) ?_);rintro e w3 ⟨rfl,hb3⟩;have k1:=HK1.out.keep hb3;have k2:=HK2.out.keep hb3;obtain ⟨⟨c0,c1,c2,c3,c4⟩,_⟩:=five_cells k1;obtain ⟨c5,c6⟩:=two_cells k2;have K31:=hide k1;have K32:=hide k2;have HB3:=hide (HBe.out.trans (hb3.mono (by simp;omega)));have hz3:=k2.lt;clear hb3 k1 k2)
          | (go_at_call 35;refine (Calls.mono (HBy.out _) ?_);rintro e w4 ⟨rfl,hb4⟩;have k1:=K31.out.keep hb4;have k2:=K32.out.keep hb4;clear c0 c1 c2 c3 c4 c5 c6;obtain ⟨⟨c0,c1,c2,c3,c4⟩,_⟩:=five_cells k1;obtain ⟨c5,c6⟩:=two_cells k2;have K41:=hide k1;have K42:=hide k2;have HB4:=hide (HB3.out.trans (hb4.mono (by omega)));have hz4:=k2.lt;clear hb4 k1 k2))
         go_ret2
         exact SealP.bad HZ.out (by decide) HB4.out
       · rw [if_neg g3] at hW2
         have HZ:=hide hW2
         have g3':¬ (65504:Int) < (b.size:Int):=by omega
         clear hW2
         go_enter Tryz.func14,Tryz.ntmps14
         go_wp2_with (first
          | (go_at_call 34;refine (Calls.mono (HCk.out _) ?_);rintro e w3 ⟨rfl,hb3⟩;have k1:=HK1.out.keep hb3;have k2:=HK2.out.keep hb3;obtain ⟨⟨c0,c1,c2,c3,c4⟩,_⟩:=five_cells k1;obtain ⟨c5,c6⟩:=two_cells k2;have K31:=hide k1;have K32:=hide k2;have HB3:=hide (HBe.out.trans (hb3.mono (by simp;omega)));have hz3:=k2.lt;clear hb3 k1 k2)
          | (go_at_call 35;refine (Calls.mono (HBy.out _) ?_);rintro e w4 ⟨rfl,hb4⟩;have k1:=K31.out.keep hb4;have k2:=K32.out.keep hb4;clear c0 c1 c2 c3 c4 c5 c6;obtain ⟨⟨c0,c1,c2,c3,c4⟩,_⟩:=five_cells k1;obtain ⟨c5,c6⟩:=two_cells k2;have K41:=hide k1;have K42:=hide k2;have HB4:=hide (HB3.out.trans (hb4.mono (by omega)));have hz4:=k2.lt;clear hb4 k1 k2))
         have hfd:∀ W5,Below w4.drew.heap.size w4.drew W5 → (W5.cell? ⟨w.heap.size,0,none⟩ = some (.int .u64 x0) ∧ W5.cell? ⟨w.heap.size,1,none⟩ = some (.int .u64 x1) ∧ W5.cell? ⟨w.heap.size,2,none⟩ = some (.int .u32 x2) ∧ W5.cell? ⟨w.heap.size,3,none⟩ = some (.int .u64 x3) ∧ W5.cell? ⟨w.heap.size,4,none⟩ = some (.int .u64 x4)) ∧ (W5.cell? ⟨w.heap.size + 1,0,none⟩ = some (.string b) ∧ W5.cell? ⟨w.heap.size + 1,1,none⟩ = some (.int .i64 x4)):=fun W5 hb => ⟨(five_cells ((show Bk w4.drew w.heap.size 25 #[.int .u64 x0,.int .u64 x1,.int .u32 x2,.int .u64 x3,.int .u64 x4] from K41.out).keep hb)).1,two_cells ((show Bk w4.drew (w.heap.size + 1) 27 #[.string b,.int .i64 x4] from K42.out).keep hb)⟩
         obtain ⟨⟨r0,r1,r2,r3,r4⟩,⟨r5,r6⟩⟩:=hfd _ (Below.refl _ _)
         have HFd:=hide hfd
         clear hfd
         go_region_held3 (fun w' => w'.cell? ⟨w.heap.size,0,none⟩ = some (.int .u64 x0) ∧ w'.cell? ⟨w.heap.size,1,none⟩ = some (.int .u64 x1) ∧ w'.cell? ⟨w.heap.size,2,none⟩ = some (.int .u32 x2) ∧ w'.cell? ⟨w.heap.size,3,none⟩ = some (.int .u64 x3) ∧ w'.cell? ⟨w.heap.size,4,none⟩ = some (.int .u64 x4) ∧ w'.cell? ⟨w.heap.size + 1,0,none⟩ = some (.string b) ∧ w'.cell? ⟨w.heap.size + 1,1,none⟩ = some (.int .i64 x4))
          (first | with_reducible exact ⟨r0,r1,r2,r3,r4,r5,r6⟩ | with_reducible exact ⟨v0,v1,v2,v3,v4,v5,v6⟩)
          (first | (go_at_call 36;refine (Calls.mono (HFr.out _) ?_);rintro e w5 ⟨rfl,hb5⟩;have hx:=HFd.out w5 hb5;obtain ⟨⟨v0,v1,v2,v3,v4⟩,⟨v5,v6⟩⟩:=hx;have HB5:=hide (HB4.out.drew.trans (hb5.mono (by show w.heap.size ≤ w4.heap.size;omega)));clear hb5))
         obtain ⟨F,hF⟩:∃ F,F = S ++ b:=⟨_,rfl⟩
         have hFs:F.size = 28 + b.size:=by rw [hF,ByteArray.size_append,HS28.out]
         rw [← hF]
         have sm:=fun (W:World) (g:Nat) (h:W.cell? ⟨g,0,none⟩ = some (.string F)) => sum_one g 0 1 F W h (by omega)
         have tl:=fun (W:World) => tail_any (crcS (strL F)) W (crcS_lt _)
         obtain ⟨C,hC⟩:∃ C,C = crcS (strL F):=⟨_,rfl⟩
         rw [← hC] at sm tl
         obtain ⟨V,hV⟩:∃ V,V = strOf (tail4 C):=⟨_,rfl⟩
         rw [← hV] at tl
         have hVs:V.size = 4:=by rw [hV,strOf_size];rfl
         have hcat3:F.size + V.size ≤ 9223372036854775807:=by omega
         have HSm:=hide (sm (w5.alloc (.cells #[.string F] 9)) w5.heap.size (((Bk.new w5 9 #[.string F]).cell 0).trans rfl))
         have HTl:=hide tl
         have hres:F ++ V = strOf (sealL ⟨x0,x1,x2,x3,x4⟩ (strL b)):=by
          refine strL_inj ?_
          rw [strL_app]
          have h1:strL F = frontL ⟨x0,x1,x2,x3,x4⟩ ++ strL b:=by rw [hF,strL_app,HSl.out]
          have h2:strL V = tail4 C:=by rw [hV];exact strL_of (tail4_lt C)
          have h3:∀ x ∈ sealL ⟨x0,x1,x2,x3,x4⟩ (strL b),x < 256:=by
           intro x hx
           unfold sealL at hx
           rcases List.mem_append.1 hx with hx | hx
           · rcases List.mem_append.1 hx with hx | hx
             · exact frontL_lt _ x hx
             · exact strL_lt b x hx
           · exact tail4_lt _ x hx
          rw [strL_of h3,h2,hC,h1];rfl
         have HRes:=hide hres
         clear hF hC hV sm tl hFs hVs hres HCk HBy HFr HFd HBe HK1 HK2 K31 K32 K41 K42 HB3 HB4
         go_wp2_with (first
          | (go_at_call 37;refine (Calls.mono (HTl.out _) ?_);rintro e w6 ⟨rfl,hb6⟩;have HB6:=hide (((HB5.out.alloc (by have:=HB5.out.size;omega) (.cells #[.string F] 9))).trans (hb6.mono (by have:=HB5.out.size;simp;omega)));clear hb6)
          | (go_at_call 18;refine (Calls.mono HSm.out ?_);rintro e w1 ⟨rfl,rfl⟩))
         go_ret2
         rw [HRes.out]
         exact SealP.good HZ.out rfl HB6.out
     · rw [if_pos (.inr g2)] at hW2
       have HZ:=hide hW2
       have g2':((x4:Int) != (n:Int)) = true:=by simp [g2]
       clear hW2
       go_enter Tryz.func14,Tryz.ntmps14
       go_wp2_with (first
        | (go_at_call 34;refine (Calls.mono (HCk.out _) ?_);rintro e w3 ⟨rfl,hb3⟩;have k1:=HK1.out.keep hb3;have k2:=HK2.out.keep hb3;obtain ⟨⟨c0,c1,c2,c3,c4⟩,_⟩:=five_cells k1;obtain ⟨c5,c6⟩:=two_cells k2;have K31:=hide k1;have K32:=hide k2;have HB3:=hide (HBe.out.trans (hb3.mono (by simp;omega)));have hz3:=k2.lt;clear hb3 k1 k2)
        | (go_at_call 35;refine (Calls.mono (HBy.out _) ?_);rintro e w4 ⟨rfl,hb4⟩;have k1:=K31.out.keep hb4;have k2:=K32.out.keep hb4;clear c0 c1 c2 c3 c4 c5 c6;obtain ⟨⟨c0,c1,c2,c3,c4⟩,_⟩:=five_cells k1;obtain ⟨c5,c6⟩:=two_cells k2;have K41:=hide k1;have K42:=hide k2;have HB4:=hide (HB3.out.trans (hb4.mono (by omega)));have hz4:=k2.lt;clear hb4 k1 k2))
       go_ret2
       exact SealP.bad HZ.out (by decide) HB4.out
 · rw [if_neg g1] at hW
   have hck:chkB b N = 2:=by unfold chkB;rw [if_neg g1]
   rw [hck] at ck
   have HCk:=hide ck
   have HZ:=hide hW
   obtain ⟨x0,x1,x2,x3,x4⟩:=h
   unfold headV
   clear ck by_ fr hW hck g1
   go_enter Tryz.func14,Tryz.ntmps14
   go_wp2_with (go_at_call 34;refine (Calls.mono (HCk.out _) ?_);rintro e w3 ⟨rfl,hb3⟩;have HB3:=hide hb3;clear hb3)
   go_ret2
   exact SealP.bad HZ.out (by decide) ((((Below.refl _ w).alloc (Nat.le_refl _) _).alloc (by simp) _).trans (HB3.out.mono (by simp;omega)))
end Go.Proofs.YtcfnjpokfodmoaaGreatDoor
