/- Lemmas for the row: Base, BitsPlain, CrcPlain, StrL, Room, PackA, CodesPlain, Cost, BitsA, BitsB, Writer, ZeroPlain, MtfPlain, WriterB, WriterC. -/
import Derived.Test.YtcfnjpokfodmoaaGreatDoorRows
import Derived.BigQuiet
import Derived.Deep.AppendLies
import Derived.Deep.DeepCutAuto
import Derived.Deep.QuietTactic
import Derived.Deep.RegionHeld3
import Derived.Deep.RegionLaw
import Derived.Deep.RegionLawGrows
import Derived.Handy
import Derived.Lib.Hide
import Derived.Maps.AppendAt
import Derived.PlainAid
import Derived.WalkKit
import Derived.WalkLawsBesides
import Derived.WalkSpells
set_option maxRecDepth 100000
set_option linter.unusedVariables false
namespace Go.Proofs.YtcfnjpokfodmoaaGreatDoor
open Go.RowKit
theorem hide {p:Prop} (h:p):Hid p:=h
def I64 (n:Int):Prop:=-9223372036854775808 ≤ n ∧ n ≤ 9223372036854775807
theorem ret_bool {a b:Bool} (h:a = b):Ending.returned (.bool a) = .returned (.bool b):=by rw [h]
theorem ret_int {k:IntKind} {a b:Int} (h:a = b):Ending.returned (.int k a) = .returned (.int k b):=by rw [h]
theorem v_int {k:IntKind} {a b:Int} (h:a = b):Value.int k a = .int k b:=by rw [h]
theorem ret_t2 {a b a' b':Value} (h:a = a') (g:b = b'):Ending.returned (.tuple #[a,b]) = .returned (.tuple #[a',b']):=by rw [h,g]
theorem dr2 (w:World) (a b:Nat):∃ n,(w.drewN a).drewN b = w.drewN n:=⟨_,by rw [World.drewN_drewN]⟩
theorem below_drewN {B:Nat} {a w:World} (h:Below B a w) (n:Nat):Below B a (w.drewN n):=⟨h.os,h.tape,h.output,h.size,h.block⟩
def Rd (w:World) (B:Nat) (A:Option Addr) (xs:List Value):Prop :=
 ∀ i u,xs[i]? = some u → ∃ b o,A = some ⟨b,o,none⟩ ∧ b < B ∧ w.cell? ⟨b,o + i,none⟩ = some u
section
variable {w w':World} {B B':Nat} {A:Option Addr} {xs:List Value}
theorem Rd.nil_:Rd w B A []:=fun i u h => by simp at h
theorem Rd.keep (h:Rd w B A xs) (hk:∀ p:Addr,p.block < B → w'.cell? p = w.cell? p):Rd w' B A xs:=fun i u hu => by
 obtain ⟨b,o,e,hb,hc⟩:=h i u hu
 exact ⟨b,o,e,hb,(hk ⟨b,o + i,none⟩ hb).trans hc⟩
theorem Rd.more (h:Rd w B A xs) (hB:B ≤ B'):Rd w B' A xs:=fun i u hu => by
 obtain ⟨b,o,e,hb,hc⟩:=h i u hu
 exact ⟨b,o,e,Nat.lt_of_lt_of_le hb hB,hc⟩
theorem Rd.below (h:Rd w B A xs) (hb:Below B w w'):Rd w' B A xs:=h.keep fun _ hp => hb.cell hp
theorem Rd.drewN (h:Rd w B A xs) (k:Nat):Rd (w.drewN k) B A xs:=h
theorem Rd.alloc (h:Rd w B A xs) (hB:B ≤ w.heap.size) (o:Obj):Rd (w.alloc o) B A xs:=h.keep fun p hp => World.cell?_alloc_lt w o p (by omega)
theorem Rd.setCell (h:Rd w B A xs) {p:Addr} (hB:B ≤ p.block) (u:Value):Rd (w.setCell p u) B A xs :=
 h.keep fun q hq => World.cell?_setCell_other w p q u (fun e => by subst e;omega)
theorem Rd.int {k:IntKind} {zs:List Int} (h:Rd w B A (zs.map (.int k))) {i:Nat} (hi:i < zs.length) :
 ∃ b o z,A = some ⟨b,o,none⟩ ∧ b < B ∧ zs[i]? = some z ∧ w.cell? ⟨b,o + i,none⟩ = some (.int k z):=by
 obtain ⟨b,o,e,hb,hc⟩:=h i (.int k zs[i]) (by simp [hi])
 exact ⟨b,o,zs[i],e,hb,by simp [hi],hc⟩
end
structure Fr (S:Nat → Prop) (w w':World):Prop where
 os:w'.os = w.os
 tape:w'.tape = w.tape
 output:w'.output = w.output
 size:w.heap.size ≤ w'.heap.size
 block:∀ k,k < w.heap.size → ¬ S k → w'.heap[k]? = w.heap[k]?
section
variable {w w' a b:World} {S T:Nat → Prop}
theorem Fr.refl (S:Nat → Prop) (w:World):Fr S w w:=⟨rfl,rfl,rfl,Nat.le_refl _,fun _ _ _ => rfl⟩
theorem Fr.trans (h:Fr S a w) (k:Fr T w w') (hT:∀ g,T g → S g ∨ a.heap.size ≤ g):Fr S a w' :=
 ⟨k.os.trans h.os,k.tape.trans h.tape,k.output.trans h.output,Nat.le_trans h.size k.size,fun i hi hS =>
  (k.block i (Nat.lt_of_lt_of_le hi h.size) (fun ht => (hT i ht).elim hS (fun _ => by omega))).trans (h.block i hi hS)⟩
theorem Fr.mono (h:Fr S a w) (hS:∀ g,S g → T g):Fr T a w:=⟨h.os,h.tape,h.output,h.size,fun i hi ht => h.block i hi (fun hs => ht (hS i hs))⟩
theorem Fr.drew (h:Fr S a w):Fr S a w.drew:=⟨h.os,h.tape,h.output,h.size,h.block⟩
theorem Fr.drewN (h:Fr S a w) (n:Nat):Fr S a (w.drewN n):=⟨h.os,h.tape,h.output,h.size,h.block⟩
theorem Fr.alloc (h:Fr S a w) (o:Obj):Fr S a (w.alloc o) :=
 ⟨h.os,h.tape,h.output,Nat.le_trans h.size (by simp),fun i hi hS => (Below.heap_alloc w o i (Nat.lt_of_lt_of_le hi h.size)).trans (h.block i hi hS)⟩
theorem Fr.setCell (h:Fr S a w) {p:Addr} (hp:S p.block ∨ a.heap.size ≤ p.block) (u:Value):Fr S a (w.setCell p u) :=
 ⟨h.os,h.tape,h.output,by simpa [World.setCell] using h.size,fun i hi hS => (Below.heap_setCell w p u i (by
  rintro rfl
  rcases hp with hp | hp
  · exact hS hp
  · omega)).trans (h.block i hi hS)⟩
theorem Fr.below (h:Below w.heap.size w w') (S:Nat → Prop):Fr S w w':=⟨h.os,h.tape,h.output,h.size,fun i hi _ => h.block i hi⟩
theorem Fr.grown {row:Option Nat} (h:w.grownBy w' row) (hS:∀ g,row = some g → S g):Fr S w w' :=
 ⟨h.os,h.tape,h.output,h.size,fun i hi hn => h.block i hi (fun e => hn (hS i e.symm))⟩
theorem Fr.toBelowB {B:Nat} (h:Fr S w w') (hS:∀ g,S g → B ≤ g) (hB:B ≤ w.heap.size):Below B w w' :=
 ⟨h.os,h.tape,h.output,h.size,fun k hk => h.block k (by omega) (fun hs => by have:=hS k hs;omega)⟩
theorem Fr.cell (h:Fr S w w') {p:Addr} {v:Value} (hp:¬ S p.block) (hc:w.cell? p = some v):w'.cell? p = some v :=
 (World.cell?_of_block (h.block p.block (World.block_lt_of_cell? w p hc) hp)).trans hc
theorem Rd.fr {B:Nat} {A:Option Addr} {xs:List Value} (h:Rd w B A xs) (hf:Fr S w w') (hS:∀ g,g < B → ¬ S g):Rd w' B A xs:=fun i u hu => by
 obtain ⟨b,o,e,hb,hc⟩:=h i u hu
 exact ⟨b,o,e,hb,hf.cell (hS b hb) hc⟩
end
def Bk (w:World) (g:Nat) (t:TypeId) (cs:Array Value):Prop:=w.heap[g]? = some (.cells cs t (0,0))
section
variable {w w':World} {g:Nat} {t:TypeId} {cs:Array Value} {S:Nat → Prop}
theorem Bk.lt (h:Bk w g t cs):g < w.heap.size:=(Array.getElem?_eq_some_iff.1 h).1
theorem Bk.cell (h:Bk w g t cs) (i:Nat):w.cell? ⟨g,i,none⟩ = cs[i]?:=cell_of_row w g i cs t (0,0) h
theorem Bk.free (h:Bk w g t cs) (i:Nat):w.frozen? ⟨g,i,none⟩ = false:=by
 unfold Bk at h
 simp [World.frozen?,h]
theorem Bk.new (w:World) (t:TypeId) (cs:Array Value):Bk (w.alloc (.cells cs t)) w.heap.size t cs:=heap_alloc_new w _
theorem Bk.drew (h:Bk w g t cs):Bk w.drew g t cs:=h
theorem Bk.drewN (h:Bk w g t cs) (n:Nat):Bk (w.drewN n) g t cs:=h
theorem Bk.alloc (h:Bk w g t cs) (o:Obj):Bk (w.alloc o) g t cs:=(Below.heap_alloc w o g h.lt).trans h
theorem Bk.set_ (h:Bk w g t cs) (i:Nat) (u:Value):Bk (w.setCell ⟨g,i,none⟩ u) g t (cs.setIfInBounds i u):=by
 unfold Bk at h ⊢
 simp [World.setCell,Array.getElem?_modify,h]
theorem Bk.far (h:Bk w g t cs) {p:Addr} (hp:g ≠ p.block) (u:Value):Bk (w.setCell p u) g t cs:=(Below.heap_setCell w p u g hp).trans h
theorem Bk.below {B:Nat} (h:Bk w g t cs) (hb:Below B w w') (hg:g < B):Bk w' g t cs:=(hb.block g hg).trans h
theorem Bk.fr (h:Bk w g t cs) (hf:Fr S w w') (hg:¬ S g):Bk w' g t cs:=(hf.block g h.lt hg).trans h
theorem Bk.grown {row:Option Nat} (h:Bk w g t cs) (hb:w.grownBy w' row) (hg:some g ≠ row):Bk w' g t cs:=(hb.block g h.lt hg).trans h
theorem Bk.ne_ {g':Nat} {t':TypeId} {cs':Array Value} (h:Bk w g t cs) (h':Bk w g' t' cs') (hne:t ≠ t'):g ≠ g':=by
 rintro rfl
 unfold Bk at h h'
 rw [h] at h'
 simp only [Option.some.injEq,Obj.cells.injEq] at h'
 exact hne h'.2.1
theorem own_ne {base:Nat} {e:TypeId} {size n:Nat} {v:Value} {xs:List Value} (h:w.ownsRow base e size v n xs) (hg:Bk w g t cs) (hne:e ≠ t):some g ≠ v.ownBlock:=by
 rcases h.2 with ⟨rfl,_⟩ | ⟨g',cap,cur,rfl,_,hh,_⟩
 · simp [Value.ownBlock]
 · intro he
   have:g = g':=by simpa [Value.ownBlock] using he
   exact Bk.ne_ (t:=e) hh hg hne this.symm
theorem own_base {base base' e size n:Nat} {v:Value} {xs:List Value} (h:w.ownsRow base e size v n xs) (hB:∀ g,v.ownBlock = some g → base' ≤ g):w.ownsRow base' e size v n xs:=by
 refine ⟨h.1,h.2.imp id ?_⟩
 rintro ⟨g,cap,cur,rfl,_,c⟩
 exact ⟨g,cap,cur,rfl,hB g rfl,c⟩
theorem own_fr {base e size n:Nat} {v:Value} {xs:List Value} (h:w.ownsRow base e size v n xs) (hf:Fr S w w') (hS:∀ g,v.ownBlock = some g → ¬ S g):w'.ownsRow base e size v n xs:=by
 refine ⟨h.1,h.2.imp id ?_⟩
 rintro ⟨g,cap,cur,rfl,hb,hg,r⟩
 exact ⟨g,cap,cur,rfl,hb,(hf.block g (Array.getElem?_eq_some_iff.1 hg).1 (hS g rfl)).trans hg,r⟩
theorem own_set {base e size n:Nat} {v:Value} {xs:List Value} (h:w.ownsRow base e size v n xs) {p:Addr} (hp:v.ownBlock ≠ some p.block) (u:Value):(w.setCell p u).ownsRow base e size v n xs:=by
 refine ⟨h.1,h.2.imp id ?_⟩
 rintro ⟨g,cap,cur,rfl,hb,hg,r⟩
 exact ⟨g,cap,cur,rfl,hb,(Below.heap_setCell w p u g (fun e => hp (by subst e;rfl))).trans hg,r⟩
theorem own_lt {base e size n:Nat} {v:Value} {xs:List Value} (h:w.ownsRow base e size v n xs):∀ g,v.ownBlock = some g → g < w.heap.size:=fun g hg => (h.lt g hg).2
theorem own_rd {base e n c:Nat} {A:Option Addr} {xs:List Value} (h:w.ownsRow base e 1 (.slice A n c) n xs):Rd w w.heap.size A xs:=fun i u hu => by
 rcases h.2 with ⟨hv,hn⟩ | ⟨g,cap,cur,hv,hb,hg,hc⟩
 · have:=h.1
   rw [hn] at this
   have hx:xs = []:=List.eq_nil_of_length_eq_zero (by simpa using this)
   subst hx
   simp at hu
 · simp only [Value.slice.injEq] at hv
   obtain ⟨rfl,_,rfl⟩:=hv
   refine ⟨g,0,rfl,(Array.getElem?_eq_some_iff.1 hg).1, ?_⟩
   have:=h.cells (g:=g) rfl i u hu
   rw [Addr.add_lit] at this
   exact this
end
theorem bcell {W w1:World} (hb:Below W.heap.size W w1):(∀ b o,b < W.heap.size → w1.cell? ⟨b,o,none⟩ = W.cell? ⟨b,o,none⟩) ∧ (∀ b o,b < W.heap.size → w1.frozen? ⟨b,o,none⟩ = W.frozen? ⟨b,o,none⟩) :=
 ⟨fun b o h => hb.cell (p:=⟨b,o,none⟩) h,fun b o h => hb.frozen (p:=⟨b,o,none⟩) h⟩
theorem Bk.keep {w w':World} {g:Nat} {t:TypeId} {cs:Array Value} (h:Bk w g t cs) (hb:Below w.heap.size w w'):Bk w' g t cs:=h.below hb h.lt
theorem Bk.new1 (w:World) (X:Obj) (t:TypeId) (cs:Array Value):Bk ((w.alloc X).alloc (.cells cs t)) (w.heap.size + 1) t cs:=by
 have:=Bk.new (w.alloc X) t cs
 rwa [show (w.alloc X).heap.size = w.heap.size + 1 by simp] at this
theorem Bk.new2 (w:World) (X Y:Obj) (t:TypeId) (cs:Array Value):Bk (((w.alloc X).alloc Y).alloc (.cells cs t)) (w.heap.size + 1 + 1) t cs:=by
 have:=Bk.new1 (w.alloc X) Y t cs
 rwa [show (w.alloc X).heap.size = w.heap.size + 1 by simp] at this
theorem two_cells {w:World} {g:Nat} {t:TypeId} {a b:Value} (h:Bk w g t #[a,b]):w.cell? ⟨g,0,none⟩ = some a ∧ w.cell? ⟨g,1,none⟩ = some b:=⟨h.cell 0,h.cell 1⟩
def byt (s:ByteArray) (k:Nat):Nat:=if h:k < s.size then (s[k]'h).toNat else 0
theorem byt_of (s:ByteArray) {k:Nat} (h:k < s.size):(s[k]'h).toNat = byt s k:=by unfold byt;rw [dif_pos h]
theorem byt_lt (s:ByteArray) (k:Nat):byt s k < 256:=by
 unfold byt;split
 · exact UInt8.toNat_lt _
 · omega
theorem byt_ext {s t:ByteArray} (hs:s.size = t.size) (h:∀ k,k < s.size → byt s k = byt t k):s = t:=by
 apply ByteArray.ext
 apply Array.ext
 · exact hs
 · intro i h1 h2
   have:=h i h1
   rw [← byt_of s h1,← byt_of t h2] at this
   exact UInt8.toNat_inj.1 this
def bitAt (s:ByteArray) (i:Nat):Bool:=byt s (i / 8) / 2 ^ (7 - i % 8) % 2 == 1
def bitsL (s:ByteArray) (n:Nat):List Bool:=(List.range n).map (bitAt s)
@[simp] theorem bitsL_length (s:ByteArray) (n:Nat):(bitsL s n).length = n:=by simp [bitsL]
theorem bitsL_get (s:ByteArray) {n i:Nat} (h:i < n):(bitsL s n)[i]? = some (bitAt s i):=by simp [bitsL,h]
def natBits (v:Nat):Nat → List Bool
 | 0 => []
 | w + 1 => (v / 2 ^ w % 2 == 1) :: natBits v w
@[simp] theorem natBits_length (v w:Nat):(natBits v w).length = w:=by induction w <;> simp [natBits, *]
theorem natBits_append (v a b:Nat):natBits v (a + b) = natBits (v / 2 ^ b) a ++ natBits v b:=by
 induction a with
 | zero => simp [natBits]
 | succ a ih =>
   rw [show a + 1 + b = (a + b) + 1 by omega,natBits,natBits,ih,List.cons_append,Nat.div_div_eq_div_mul,← Nat.pow_add,Nat.add_comm b a]
theorem natBits_mod (v w m:Nat) (h:w ≤ m):natBits (v % 2 ^ m) w = natBits v w:=by
 induction w with
 | zero => rfl
 | succ w ih =>
   have e:(v % 2 ^ m / 2 ^ w % 2 == 1) = (v / 2 ^ w % 2 == 1):=by
    have h1:=Nat.testBit_mod_two_pow v m w
    rw [Nat.testBit_eq_decide_div_mod_eq,Nat.testBit_eq_decide_div_mod_eq,decide_eq_true (show w < m by omega),Bool.true_and] at h1
    rw [Bool.eq_iff_iff];simpa using h1
   rw [natBits,natBits,e,ih (by omega)]
theorem natBits_join (x y a b:Nat) (hy:y < 2 ^ b):natBits (x * 2 ^ b + y) (a + b) = natBits x a ++ natBits y b:=by
 rw [natBits_append]
 congr 1
 · rw [Nat.mul_comm,Nat.mul_add_div (Nat.two_pow_pos b),Nat.div_eq_of_lt hy,Nat.add_zero]
 · rw [← natBits_mod (x * 2 ^ b + y) b b (Nat.le_refl b),Nat.mul_comm,Nat.mul_add_mod,Nat.mod_eq_of_lt hy]
theorem natBits_get (v w i:Nat) (h:i < w):(natBits v w)[i]? = some (v / 2 ^ (w - 1 - i) % 2 == 1):=by
 induction w generalizing i with
 | zero => omega
 | succ w ih =>
   cases i with
   | zero => simp [natBits]
   | succ i => simp only [natBits,List.getElem?_cons_succ];rw [ih i (by omega)];congr 5;omega
theorem natBits_inj {v x w:Nat} (hv:v < 2 ^ w) (hx:x < 2 ^ w) (h:natBits v w = natBits x w):v = x:=by
 induction w generalizing v x with
 | zero => simp at hv hx;omega
 | succ w ih =>
   simp only [natBits,List.cons.injEq] at h
   have h1:=ih (v:=v % 2 ^ w) (x:=x % 2 ^ w) (Nat.mod_lt _ (Nat.two_pow_pos w)) (Nat.mod_lt _ (Nat.two_pow_pos w)) (by rw [natBits_mod _ _ _ (Nat.le_refl w),natBits_mod _ _ _ (Nat.le_refl w)];exact h.2)
   have e1:v / 2 ^ w < 2:=by rw [Nat.div_lt_iff_lt_mul (Nat.two_pow_pos w)];rw [Nat.pow_succ] at hv;omega
   have e2:x / 2 ^ w < 2:=by rw [Nat.div_lt_iff_lt_mul (Nat.two_pow_pos w)];rw [Nat.pow_succ] at hx;omega
   have dv:=Nat.div_add_mod v (2 ^ w)
   have dx:=Nat.div_add_mod x (2 ^ w)
   generalize v / 2 ^ w = qv at *
   generalize x / 2 ^ w = qx at *
   have h2:qv = qx:=by
    have:=h.1
    rw [Nat.mod_eq_of_lt e1,Nat.mod_eq_of_lt e2] at this
    rcases Nat.lt_or_ge qv 1 with a | a <;> rcases Nat.lt_or_ge qx 1 with b | b
    · omega
    · rw [show qv = 0 by omega,show qx = 1 by omega] at this;simp at this
    · rw [show qv = 1 by omega,show qx = 0 by omega] at this;simp at this
    · omega
   rw [← dv,← dx,h1,h2]
def rightB (s:ByteArray) (n:Int):Bool :=
 decide (0 ≤ n ∧ n ≤ 1048576 ∧ (s.size:Int) = (n + 7) / 8) && (decide (n % 8 = 0) || decide (byt s (s.size - 1) * 2 ^ (n % 8).toNat % 256 = 0))
def chkB (s:ByteArray) (n:Int):Int:=if rightB s n then 0 else 2
theorem rightB_n {s:ByteArray} {n:Int} (h:rightB s n = true):0 ≤ n ∧ n ≤ 1048576 ∧ (s.size:Int) = (n + 7) / 8:=by
 simp only [rightB,Bool.and_eq_true,decide_eq_true_eq] at h;exact h.1
theorem low_zero {x r:Nat} (_hx:x < 256) (hr:0 < r) (hr8:r < 8):x * 2 ^ r % 256 = 0 ↔ ∀ j,r ≤ j → j < 8 → x / 2 ^ (7 - j) % 2 = 0:=by
 have:r = 1 ∨ r = 2 ∨ r = 3 ∨ r = 4 ∨ r = 5 ∨ r = 6 ∨ r = 7:=by omega
 constructor
 · intro h j h1 h2
   have hj:j = 1 ∨ j = 2 ∨ j = 3 ∨ j = 4 ∨ j = 5 ∨ j = 6 ∨ j = 7:=by omega
   rcases this with rfl | rfl | rfl | rfl | rfl | rfl | rfl <;> rcases hj with rfl | rfl | rfl | rfl | rfl | rfl | rfl <;> simp at * <;> omega
 · intro h
   have h1:=h 1;have h2:=h 2;have h3:=h 3;have h4:=h 4;have h5:=h 5;have h6:=h 6;have h7:=h 7
   rcases this with rfl | rfl | rfl | rfl | rfl | rfl | rfl <;> simp at * <;> omega
theorem rightB_iff {s:ByteArray} {n:Nat} (hn:n ≤ 1048576) (hs:s.size = (n + 7) / 8):rightB s n = true ↔ ∀ i,n ≤ i → i < 8 * s.size → bitAt s i = false:=by
 have h0:(0 ≤ (n:Int) ∧ (n:Int) ≤ 1048576 ∧ (s.size:Int) = ((n:Int) + 7) / 8):=⟨by omega,by omega,by omega⟩
 unfold rightB
 rw [decide_eq_true h0,Bool.true_and,Bool.or_eq_true,decide_eq_true_eq,decide_eq_true_eq]
 by_cases hz:n % 8 = 0
 · constructor
   · intro _ i h1 h2;omega
   · intro _;left;omega
 · have e8:((n:Int) % 8).toNat = n % 8:=by omega
   rw [e8,low_zero (byt_lt _ _) (by omega) (by omega)]
   constructor
   · rintro (h | h) i h1 h2
     · omega
     · have:=h (i % 8) (by omega) (by omega)
       unfold bitAt
       rw [show i / 8 = s.size - 1 by omega,this];rfl
   · intro h;right
     intro j h1 h2
     have:=h (8 * (s.size - 1) + j) (by omega) (by omega)
     unfold bitAt at this
     rw [show (8 * (s.size - 1) + j) / 8 = s.size - 1 by omega,show (8 * (s.size - 1) + j) % 8 = j by omega] at this
     simp at this
     omega
def Bs (s:ByteArray) (n:Int) (l:List Bool):Prop:=rightB s n = true ∧ n = l.length ∧ bitsL s l.length = l
theorem Bs.of_right {s:ByteArray} {n:Nat} (h:rightB s n = true):Bs s n (bitsL s n):=⟨h,by simp,by simp⟩
theorem Bs.len {s:ByteArray} {n:Int} {l:List Bool} (h:Bs s n l):l.length ≤ 1048576 ∧ s.size = (l.length + 7) / 8:=by
 have:=rightB_n h.1
 have:=h.2.1
 omega
theorem Bs.mk {s:ByteArray} {l:List Bool} (hl:l.length ≤ 1048576) (hs:s.size = (l.length + 7) / 8) (h:∀ i,i < 8 * s.size → bitAt s i = l.getD i false):Bs s l.length l:=by
 refine ⟨(rightB_iff hl hs).2 fun i h1 h2 => ?_,rfl, ?_⟩
 · rw [h i h2];simp [h1]
 · apply List.ext_getElem?
   intro i
   by_cases hi:i < l.length
   · rw [bitsL_get s hi,h i (by omega)];simp [hi]
   · rw [List.getElem?_eq_none (by simp;omega),List.getElem?_eq_none (by omega)]
def getN (s:ByteArray) (p:Nat):Nat → Nat
 | 0 => 0
 | k + 1 => 2 * getN s p k + (bitAt s (p + k)).toNat
theorem getN_lt (s:ByteArray) (p k:Nat):getN s p k < 2 ^ k:=by
 induction k with
 | zero => simp [getN]
 | succ k ih => rw [getN,Nat.pow_succ];have:=Bool.toNat_lt (bitAt s (p + k));omega
theorem getN_add (s:ByteArray) (p k v:Nat):getN s p (k + v) = getN s p k * 2 ^ v + getN s (p + k) v:=by
 induction v with
 | zero => simp [getN]
 | succ v ih =>
   rw [← Nat.add_assoc,getN,ih,getN,Nat.pow_succ,Nat.add_assoc p k v]
   generalize (bitAt s (p + (k + v))).toNat = b
   generalize getN s (p + k) v = g
   generalize getN s p k = h
   rw [Nat.mul_add,← Nat.mul_assoc,Nat.mul_comm 2 h,Nat.mul_assoc h 2,Nat.mul_comm 2 (2 ^ v)]
   omega
theorem div_mod_step (x d v:Nat):2 * (x / 2 ^ (d + 1) % 2 ^ v) + x / 2 ^ d % 2 = x / 2 ^ d % 2 ^ (v + 1):=by
 rw [Nat.pow_succ 2 d,← Nat.div_div_eq_div_mul,Nat.pow_succ,Nat.mul_comm (2 ^ v) 2,Nat.mod_mul]
 omega
theorem getN_byte (s:ByteArray) (p v:Nat) (h:p % 8 + v ≤ 8):getN s p v = byt s (p / 8) / 2 ^ (8 - p % 8 - v) % 2 ^ v:=by
 induction v with
 | zero => simp [getN,Nat.mod_one]
 | succ v ih =>
   rw [getN,ih (by omega),← div_mod_step,show 8 - p % 8 - v = 8 - p % 8 - (v + 1) + 1 by omega]
   congr 1
   unfold bitAt
   rw [show (p + v) / 8 = p / 8 by omega,show 7 - (p + v) % 8 = 8 - p % 8 - (v + 1) by omega]
   generalize byt s (p / 8) / 2 ^ (8 - p % 8 - (v + 1)) = y
   rcases Nat.mod_two_eq_zero_or_one y with e | e <;> rw [e] <;> rfl
theorem natBits_getN (s:ByteArray) (p k:Nat):natBits (getN s p k) k = (List.range k).map fun j => bitAt s (p + j):=by
 induction k with
 | zero => rfl
 | succ k ih =>
   rw [natBits_append (getN s p (k + 1)) k 1,List.range_succ,List.map_append,getN]
   have hb:=Bool.toNat_lt (bitAt s (p + k))
   rw [show (2 * getN s p k + (bitAt s (p + k)).toNat) / 2 ^ 1 = getN s p k by omega,ih]
   congr 1
   simp only [natBits,List.map_cons,List.map_nil]
   cases bitAt s (p + k) <;> simp
theorem bits_seg (s:ByteArray) {n p k:Nat} (h:p + k ≤ n):((bitsL s n).drop p).take k = (List.range k).map fun j => bitAt s (p + j):=by
 apply List.ext_getElem?
 intro i
 by_cases hi:i < k
 · rw [List.getElem?_take_of_lt hi,List.getElem?_drop,bitsL_get s (by omega)];simp [hi]
 · rw [List.getElem?_eq_none (by simp;omega),List.getElem?_eq_none (by simp;omega)]
theorem u64n (n:Nat) (h:n ≤ 18446744073709551615):IntKind.u64.wrap (n:Int) = (n:Int):=IntWalk.u64_in _ ⟨by omega,by omega⟩
theorem mask_nat (x v:Nat) (hx:x < 18446744073709551616) (hv:v ≤ 62):bits .and .u64 (x:Int) (IntKind.u64.wrap (IntKind.u64.wrap (2 ^ v) - 1)) = ((x % 2 ^ v:Nat):Int):=by
 have h2:2 ^ v ≤ 2 ^ 62:=Nat.pow_le_pow_right (by omega) hv
 have hp:0 < 2 ^ v:=Nat.two_pow_pos v
 have e:(2:Int) ^ v = ((2 ^ v:Nat):Int):=by rw [Int.natCast_pow];rfl
 rw [e,u64n (2 ^ v) (by omega),show ((2 ^ v:Nat):Int) - 1 = ((2 ^ v - 1:Nat):Int) by omega,u64n (2 ^ v - 1) (by omega),
  u64_and_nat _ _ hx (by omega),Nat.and_two_pow_sub_one_eq_mod]
theorem shl_or (n q v:Nat) (hq:q < 2 ^ v) (hn:n * 2 ^ v + q < 18446744073709551616):bits .or .u64 (IntKind.u64.wrap ((n:Int) * 2 ^ v)) (q:Int) = ((n * 2 ^ v + q:Nat):Int):=by
 have e:(n:Int) * (2:Int) ^ v = ((n * 2 ^ v:Nat):Int):=by rw [Int.natCast_mul,Int.natCast_pow];rfl
 rw [e,IntWalk.u64_in _ ⟨by omega,by omega⟩,u64_or_nat _ _ (by omega) (by omega),nat_join v _ _ (Nat.mul_mod_left _ _) hq]
theorem get_step (n b sh v:Nat) (hb:b < 256) (hv:v ≤ 8) (hn:n * 2 ^ v + 2 ^ v ≤ 18446744073709551616) :
 bits .or .u64 (IntKind.u64.wrap ((n:Int) * 2 ^ v)) (bits .and .u64 (IntKind.u64.wrap (b:Int) / 2 ^ sh) (IntKind.u64.wrap (IntKind.u64.wrap (2 ^ v) - 1))) = ((n * 2 ^ v + b / 2 ^ sh % 2 ^ v:Nat):Int):=by
 have e:IntKind.u64.wrap (b:Int) / 2 ^ sh = ((b / 2 ^ sh:Nat):Int):=by
  rw [IntWalk.u64_in _ ⟨by omega,by omega⟩,Int.natCast_ediv,Int.natCast_pow];rfl
 have hm:=Nat.mod_lt (b / 2 ^ sh) (Nat.two_pow_pos v)
 have hd:=Nat.div_le_self b (2 ^ sh)
 rw [e,mask_nat _ _ (by omega) (by omega),shl_or _ _ _ hm (by omega)]
def strOf (l:List Nat):ByteArray:=⟨(l.map UInt8.ofNat).toArray⟩
def vby (l:List Nat):List Value:=l.map fun b => .int .u8 (b:Nat)
@[simp] theorem vby_length (l:List Nat):(vby l).length = l.length:=by simp [vby]
theorem strOf_size (l:List Nat):(strOf l).size = l.length:=by simp [strOf,ByteArray.size]
theorem strOf_byt (l:List Nat) (h:∀ b ∈ l,b < 256) (k:Nat):byt (strOf l) k = l.getD k 0:=by
 by_cases hk:k < l.length
 · rw [← byt_of _ (by rw [strOf_size];exact hk)]
   have:(strOf l)[k]'(by rw [strOf_size];exact hk) = UInt8.ofNat l[k]:=by
    show (strOf l).data[k]'_ = _
    simp [strOf]
   rw [this]
   simp [hk]
   exact h _ (List.getElem_mem hk)
 · unfold byt;rw [dif_neg (by rw [strOf_size];exact hk)];simp [List.getD,List.getElem?_eq_none (Nat.le_of_not_lt hk)]
theorem run_conv (P:Program) (w:World) (src e:TypeId) (hs:P.underlying src = some (.slice e)) (he:P.underlying e = some (.int .u8)) (dst:TypeId) (hd:P.underlying dst = some .string)
 {B:Nat} {A:Option Addr} {l:List Nat} (h:Rd w B A (vby l)) (c:Nat):(convert src dst (.slice A l.length c)).run P w = .ok (.string (strOf l)) w:=by
 cases A with
 | none =>
   have hl:l = []:=by
    cases l with
    | nil => rfl
    | cons x l => obtain ⟨b,o,hA,_⟩:=h 0 (.int .u8 (x:Nat)) (by simp [vby]);cases hA
   subst hl
   exact run_convert_bytes_nil w src e hs he _ c dst hd
 | some ad =>
   have hload:(loadCells ad l.length).run P w = .ok ((l.map fun b => ((b:Nat):Int)).map (Value.int .u8)).toArray w:=by
    have:=run_loadCells_list (P:=P) w ad (vby l) (fun j v hj => by
     obtain ⟨b,o,hA,_,hc⟩:=h j v hj
     cases hA
     rw [Addr.add_lit];exact hc)
    rw [vby_length] at this
    rw [List.map_map];simpa [vby,Function.comp_def] using this
   rw [run_convert_bytes_string w src dst e _ _ c hs he hd,run_bytesToString w ad _ c _ hload,foldl_push_bytes]
   simp [strOf,ByteArray.empty,ByteArray.emptyWithCapacity]
   show [] ++ _ = _
   simp [Function.comp_def]
def crcP:Nat:=3988292384
def f1 (r:Nat):Nat:=r / 2 ^^^ (if r % 2 = 1 then crcP else 0)
def fN:Nat → Nat → Nat
 | 0,r => r
 | k + 1,r => fN k (f1 r)
def crcB (r c:Nat):Nat:=fN 8 (r ^^^ c)
theorem xor_half (a b:Nat):(a ^^^ b) / 2 = a / 2 ^^^ b / 2:=by
 apply Nat.eq_of_testBit_eq
 intro i
 rw [Nat.testBit_xor,Nat.testBit_div_two,Nat.testBit_div_two,Nat.testBit_div_two,Nat.testBit_xor]
theorem xor_odd (a b:Nat):(a ^^^ b) % 2 = if a % 2 = b % 2 then 0 else 1:=by
 have h:=Nat.testBit_xor a b 0
 simp only [Nat.testBit_zero] at h
 have ha:=Nat.mod_two_eq_zero_or_one a
 have hb:=Nat.mod_two_eq_zero_or_one b
 have hx:=Nat.mod_two_eq_zero_or_one (a ^^^ b)
 rcases ha with ha | ha <;> rcases hb with hb | hb <;> rcases hx with hx | hx <;> simp [ha,hb,hx] at h ⊢
theorem xor_four (a b c d:Nat):(a ^^^ b) ^^^ (c ^^^ d) = (a ^^^ c) ^^^ (b ^^^ d):=by
 rw [Nat.xor_assoc,Nat.xor_assoc,← Nat.xor_assoc b,Nat.xor_comm b c,Nat.xor_assoc c]
theorem f1_xor (a b:Nat):f1 (a ^^^ b) = f1 a ^^^ f1 b:=by
 unfold f1
 rw [xor_half,xor_odd,xor_four]
 congr 1
 rcases Nat.mod_two_eq_zero_or_one a with ha | ha <;> rcases Nat.mod_two_eq_zero_or_one b with hb | hb <;> simp [ha,hb]
theorem fN_xor (k a b:Nat):fN k (a ^^^ b) = fN k a ^^^ fN k b:=by
 induction k generalizing a b with
 | zero => rfl
 | succ k ih => rw [fN,f1_xor,ih,fN,fN]
theorem fN_succ (k r:Nat):fN (k + 1) r = f1 (fN k r):=by
 induction k generalizing r with
 | zero => rfl
 | succ k ih => rw [fN,ih,fN]
theorem f1_even (m:Nat):f1 (2 * m) = m:=by
 unfold f1
 rw [Nat.mul_mod_right,if_neg (by decide),Nat.xor_zero,Nat.mul_div_cancel_left _ (by decide)]
theorem fN_shift (k m:Nat):fN k (2 ^ k * m) = m:=by
 induction k generalizing m with
 | zero => simp [fN]
 | succ k ih => rw [fN,show 2 ^ (k + 1) * m = 2 * (2 ^ k * m) by rw [Nat.pow_succ];simp [Nat.mul_comm,Nat.mul_left_comm],f1_even,ih]
theorem f1_lt {r:Nat} (h:r < 4294967296):f1 r < 4294967296:=by
 unfold f1
 have h1:r / 2 < 2 ^ 32:=by omega
 have h2:(if r % 2 = 1 then crcP else 0) < 2 ^ 32:=by split <;> decide
 exact Nat.xor_lt_two_pow h1 h2
theorem fN_lt {r:Nat} (h:r < 4294967296) (k:Nat):fN k r < 4294967296:=by
 induction k generalizing r with
 | zero => exact h
 | succ k ih => exact ih (f1_lt h)
theorem xor_lt32 {a b:Nat} (ha:a < 4294967296) (hb:b < 4294967296):a ^^^ b < 4294967296:=Nat.xor_lt_two_pow (n:=32) ha hb
theorem crcB_lt {r c:Nat} (h:r < 4294967296) (hc:c < 256):crcB r c < 4294967296:=fN_lt (xor_lt32 h (by omega)) 8
theorem split8 (x:Nat):x = 256 * (x / 256) ^^^ x % 256:=by
 apply Nat.eq_of_testBit_eq
 intro i
 rw [Nat.testBit_xor,show 256 * (x / 256) = 2 ^ 8 * (x / 256) from rfl,Nat.testBit_two_pow_mul,show x % 256 = x % 2 ^ 8 from rfl,Nat.testBit_mod_two_pow,show x / 256 = x / 2 ^ 8 from rfl,Nat.testBit_div_two_pow]
 by_cases h:i < 8
 · simp [h,Nat.not_le.2 h]
 · have h':8 ≤ i:=by omega
   simp [h,h',Nat.sub_add_cancel h']
theorem xor_hi {r c:Nat} (hc:c < 256):(r ^^^ c) / 256 = r / 256:=by
 apply Nat.eq_of_testBit_eq
 intro i
 rw [show (r ^^^ c) / 256 = (r ^^^ c) / 2 ^ 8 from rfl,show r / 256 = r / 2 ^ 8 from rfl,Nat.testBit_div_two_pow,Nat.testBit_div_two_pow,Nat.testBit_xor,Nat.testBit_lt_two_pow (x:=c) (i:=i + 8) (by
  have:2 ^ 8 ≤ 2 ^ (i + 8):=Nat.pow_le_pow_right (by decide) (by omega)
  omega)]
 simp
theorem crcB_table {r c:Nat} (hc:c < 256):r / 256 ^^^ fN 8 ((r ^^^ c) % 256) = crcB r c:=by
 unfold crcB
 conv => rhs;rw [split8 (r ^^^ c),fN_xor,show 256 * ((r ^^^ c) / 256) = 2 ^ 8 * ((r ^^^ c) / 256) from rfl,fN_shift,xor_hi hc]
def crcR (r:Nat) (l:List Nat):Nat:=l.foldl crcB r
theorem crcR_lt {l:List Nat} (hl:∀ x ∈ l,x < 256):∀ {r:Nat},r < 4294967296 → crcR r l < 4294967296:=by
 unfold crcR
 induction l with
 | nil => intro r h;exact h
 | cons c l ih => intro r h;exact ih (fun x hx => hl x (List.mem_cons_of_mem _ hx)) (crcB_lt h (hl c (by simp)))
theorem crcR_snoc (r:Nat) (l:List Nat) (c:Nat):crcR r (l ++ [c]) = crcB (crcR r l) c:=by unfold crcR;rw [List.foldl_append];rfl
def crcM (sum:Nat) (l:List Nat):Nat:=4294967295 - crcR (4294967295 - sum) l
def crcS (l:List Nat):Nat:=crcM 0 l
theorem crcS_lt (l:List Nat):crcS l < 4294967296:=by unfold crcS crcM;omega
def tail4 (n:Nat):List Nat:=[n % 256,n / 256 % 256,n / 65536 % 256,n / 16777216 % 256]
def strL (s:ByteArray):List Nat:=(List.range s.size).map (byt s)
@[simp] theorem strL_length (s:ByteArray):(strL s).length = s.size:=by simp [strL]
theorem strL_get {s:ByteArray} {k:Nat} (h:k < s.size):(strL s)[k]? = some (byt s k):=by simp [strL,h]
theorem strL_lt (s:ByteArray):∀ x ∈ strL s,x < 256:=fun x hx => by
 obtain ⟨k,_,rfl⟩:=List.mem_map.1 hx
 exact byt_lt s k
theorem strL_inj {s t:ByteArray} (h:strL s = strL t):s = t:=by
 have hs:s.size = t.size:=by rw [← strL_length s,h,strL_length]
 refine byt_ext hs fun k hk => ?_
 have h1:=strL_get hk
 rw [h,strL_get (by omega)] at h1
 exact (Option.some.inj h1).symm
theorem strL_of {l:List Nat} (h:∀ x ∈ l,x < 256):strL (strOf l) = l:=by
 apply List.ext_getElem?
 intro k
 rcases Nat.lt_or_ge k l.length with g | g
 · rw [strL_get (by rw [strOf_size];exact g),strOf_byt l h,List.getD_eq_getElem?_getD,List.getElem?_eq_getElem g];rfl
 · rw [List.getElem?_eq_none (by rw [strL_length,strOf_size];exact g),List.getElem?_eq_none g]
theorem strOf_strL (s:ByteArray):strOf (strL s) = s:=strL_inj (strL_of (strL_lt s))
theorem strL_take {s:ByteArray} {k:Nat} (h:k < s.size):(strL s).take (k + 1) = (strL s).take k ++ [byt s k]:=by rw [List.take_add_one,strL_get h];rfl
def five (n:Nat):List Nat:=[n / 4294967296 % 256,n / 16777216 % 256,n / 65536 % 256,n / 256 % 256,n % 256]
def ofB (l:List Nat):Nat:=l.foldl (fun n c => 256 * n + c) 0
theorem ofB_snoc (l:List Nat) (c:Nat):ofB (l ++ [c]) = 256 * ofB l + c:=by unfold ofB;rw [List.foldl_append];rfl
theorem ofB_five {n:Nat} (h:n < 1099511627776):ofB (five n) = n:=by simp only [ofB,five,List.foldl_cons,List.foldl_nil];omega
theorem five_lt (n:Nat):∀ x ∈ five n,x < 256:=by intro x hx;simp [five] at hx;omega
theorem five_ofB {a b c d e:Nat} (ha:a < 256) (hb:b < 256) (hc:c < 256) (hd:d < 256) (he:e < 256):five (ofB [a,b,c,d,e]) = [a,b,c,d,e]:=by
 simp only [ofB,five,List.foldl_cons,List.foldl_nil,List.cons.injEq,and_true]
 omega
theorem ofB_lt {a b c d e:Nat} (ha:a < 256) (hb:b < 256) (hc:c < 256) (hd:d < 256) (he:e < 256):ofB [a,b,c,d,e] < 1099511627776:=by
 simp only [ofB,List.foldl_cons,List.foldl_nil]
 omega
theorem tail4_lt (n:Nat):∀ x ∈ tail4 n,x < 256:=by intro x hx;simp [tail4] at hx;omega
def badL (lim x:Int):Bool:=decide (x < 0) || decide (lim < x)
def usedL (lim:Nat):List Int → Nat
 | [] => 0
 | x :: l => (if 0 < x then 2 ^ (lim - x.toNat) else 0) + usedL lim l
def roomW (ls:List Int) (lim:Int):Int:=if lim < 1 ∨ 15 < lim ∨ 512 < ls.length then 1 else if ls.any (badL lim) then 7 else 0
def roomN (ls:List Int) (lim:Int):Int:=if roomW ls lim = 0 then ((2 ^ lim.toNat:Nat):Int) - (usedL lim.toNat ls:Nat) else 0
theorem usedL_append (lim:Nat) (a b:List Int):usedL lim (a ++ b) = usedL lim a + usedL lim b:=by
 induction a with
 | nil => simp [usedL]
 | cons x a ih => simp [usedL,ih];omega
theorem usedL_le (lim:Nat) (a:List Int):usedL lim a ≤ a.length * 2 ^ lim:=by
 induction a with
 | nil => simp [usedL]
 | cons x a ih =>
   have:(if 0 < x then 2 ^ (lim - x.toNat) else 0) ≤ 2 ^ lim:=by
    split
    · exact Nat.pow_le_pow_right (by omega) (by omega)
    · exact Nat.zero_le _
   rw [usedL,List.length_cons,Nat.add_mul];omega
theorem usedL_step {lim:Nat} {l:List Int} {k:Nat} {x:Int} (h:l[k]? = some x):usedL lim (l.take (k + 1)) = usedL lim (l.take k) + (if 0 < x then 2 ^ (lim - x.toNat) else 0):=by
 rw [List.take_add_one,h,usedL_append];simp [usedL]
theorem any_step {α:Type} {f:α → Bool} {l:List α} {k:Nat} {x:α} (h:l[k]? = some x):(l.take (k + 1)).any f = ((l.take k).any f || f x):=by
 rw [List.take_add_one,h,List.any_append];simp
def RoomP (ls:List Int) (lim:Int) (w:World) (e:Ending) (w':World):Prop:=e = .returned (.tuple #[.int .i64 (roomN ls lim),.int .i64 (roomW ls lim)]) ∧ w' = w
theorem RoomP.bad {ls:List Int} {lim:Int} {w:World} {k:Int} (h:roomW ls lim = k) (hk:k ≠ 0):RoomP ls lim w (.returned (.tuple #[.int .i64 0,.int .i64 k])) w:=by
 refine ⟨?_,rfl⟩
 rw [roomN,h,if_neg hk]
theorem any_of {α:Type} {f:α → Bool} {l:List α} {k:Nat} {x:α} (h:l[k]? = some x) (hf:f x = true):l.any f = true :=
 List.any_eq_true.2 ⟨x,List.mem_of_getElem? h,hf⟩
set_option maxHeartbeats 1000000 in
theorem room_any (A:Option Addr) (ls:List Int) (c:Nat) (lim:Int) (w:World) (h:Rd w w.heap.size A (ls.map (.int .i64))) (hlen:ls.length ≤ 9223372036854775807) (hlim:I64 lim) :
 Calls Tryz.prog 229 #[.slice A ls.length c,.int .i64 lim] w (RoomP ls lim w):=by
 have H:=hide h
 obtain ⟨l1,l2⟩:=hlim
 clear h
 by_cases g:lim < 1 ∨ 15 < lim ∨ 512 < ls.length
 · have hW:roomW ls lim = 1:=by rw [roomW,if_pos g]
   have HW:=hide hW
   clear hW
   go_enter Tryz.func229,Tryz.ntmps229
   go_wp2
   all_goals
    first
     | (exfalso;omega)
     | (go_ret2;exact RoomP.bad HW.out (by decide))
 · obtain ⟨L,rfl⟩:=Int.eq_ofNat_of_zero_le (show 0 ≤ lim by omega)
   have g1:1 ≤ L:=by omega
   have g2:L ≤ 15:=by omega
   have g3:ls.length ≤ 512:=by omega
   have HG:=hide g
   clear g
   have hpow:2 ^ L ≤ 2 ^ 15:=Nat.pow_le_pow_right (by omega) g2
   obtain ⟨P,hP⟩:∃ P:Nat,2 ^ L = P:=⟨_,rfl⟩
   have hP':(2:Int) ^ L = P:=by rw [← hP,Int.natCast_pow];rfl
   rw [hP] at hpow
   have HP:=hide hP
   clear hP
   go_enter Tryz.func229,Tryz.ntmps229
   go_wp2
   go_loop [6,21] (fun n i => ∃ k U:Nat,k ≤ ls.length ∧ i = .int .i64 k ∧ n = .int .i64 ((P:Int) - (U:Int)) ∧ Hid (U = usedL L (ls.take k)) ∧ Hid ((ls.take k).any (badL L) = false)) (fun _ i => ls.length - (intOf i).toNat)
   case atStart => exact ⟨0,0,by omega,rfl,by simp,by simp [usedL,Hid],by simp [Hid]⟩
   case round =>
    obtain ⟨k,U,hk,rfl,rfl,hU,hbad⟩:=hrel
    have hUb:U ≤ 16777216:=by
     have h1:=usedL_le L (ls.take k)
     rw [← hU.out,HP.out] at h1
     have h2:(ls.take k).length ≤ 512:=by simp;omega
     have:=Nat.mul_le_mul h2 hpow
     omega
    by_cases hlt:k < ls.length
    · obtain ⟨b,o,x,rfl,hb,hx,hc⟩:=H.out.int hlt
      have HX:=hide hx
      clear hx
      by_cases hx1:x < 0 ∨ (L:Int) < x
      · have hW:roomW ls L = 7:=by
         rw [roomW,if_neg HG.out,if_pos (any_of HX.out (by simpa [badL] using hx1))]
        have HW:=hide hW
        clear hW
        go_wp2
        all_goals
         first
          | (exfalso;omega)
          | (go_ret2;exact RoomP.bad HW.out (by decide))
      · obtain ⟨x,rfl⟩:=Int.eq_ofNat_of_zero_le (show 0 ≤ x by omega)
        have hxL:x ≤ L:=by omega
        have hb2:badL L x = false:=by simp [badL];omega
        have HB:=hide hb2
        obtain ⟨Q,hQ⟩:∃ Q:Nat,2 ^ (L - x) = Q:=⟨_,rfl⟩
        have hQ':(2:Int) ^ (L - x) = Q:=by rw [← hQ,Int.natCast_pow];rfl
        have hQb:Q ≤ 32768:=by rw [← hQ];exact Nat.le_trans (Nat.pow_le_pow_right (by omega) (show L - x ≤ 15 by omega)) (by decide)
        have HQ:=hide hQ
        clear hx1 hb2 hQ
        by_cases hx0:0 < x
        · go_wp2
          all_goals
           first
            | (exfalso;omega)
            | (go_round
               case rel => exact ⟨k + 1,U + Q,by omega,by go_num,by go_num,hide (by rw [usedL_step HX.out,← hU.out,if_pos (by omega),Int.toNat_natCast,HQ.out]),hide (by rw [any_step HX.out,hbad.out,HB.out];rfl)⟩
               case measure => simp [intOf];omega)
        · go_wp2
          all_goals
           first
            | (exfalso;omega)
            | (go_round
               case rel => exact ⟨k + 1,U,by omega,by go_num,rfl,hide (by rw [usedL_step HX.out,← hU.out,if_neg (by omega)];rfl),hide (by rw [any_step HX.out,hbad.out,HB.out];rfl)⟩
               case measure => simp [intOf];omega)
    · go_wp2
      go_ret2
      refine ⟨?_,rfl⟩
      have hk':k = ls.length:=by omega
      have hW:roomW ls L = 0:=by rw [roomW,if_neg HG.out,if_neg (by have:=hbad.out;rw [hk',List.take_length] at this;rw [this];decide)]
      have hU':=hU.out
      rw [hk',List.take_length] at hU'
      rw [roomN,hW,if_pos rfl,Int.toNat_natCast,HP.out,← hU']
      rfl
def hasL (ls:List Int) (v:Int):Bool:=ls.contains v
def IndexP (ls:List Int) (v:Int) (w:World) (e:Ending) (w':World):Prop:=∃ r:Int,e = .returned (.int .i64 r) ∧ (decide (0 ≤ r) = hasL ls v) ∧ w' = w
set_option maxHeartbeats 1000000 in
theorem index_any (A:Option Addr) (ls:List Int) (c:Nat) (v:Int) (w:World) (h:Rd w w.heap.size A (ls.map (.int .i64))) (hlen:ls.length ≤ 9223372036854775807) :
 Calls Tryz.prog 258 #[.slice A ls.length c,.int .i64 v] w (IndexP ls v w):=by
 have H:=hide h
 clear h
 go_enter Tryz.func258,Tryz.ntmps258
 go_wp2
 go_loop [8] (fun i => ∃ k:Nat,k ≤ ls.length ∧ i = .int .i64 k ∧ Hid ((ls.take k).any (· == v) = false)) (fun i => ls.length - (intOf i).toNat)
 case atStart => exact ⟨0,by omega,rfl,by simp [Hid]⟩
 case round =>
  obtain ⟨k,hk,rfl,hno⟩:=hrel
  by_cases hlt:k < ls.length
  · obtain ⟨b,o,x,rfl,hb,hx,hc⟩:=H.out.int hlt
    have HX:=hide hx
    clear hx
    by_cases he:v = x
    · go_wp2
      all_goals
       first
        | (exfalso;simp_all;done)
        | (go_ret;exact ⟨k,rfl,by rw [decide_eq_true (by omega)];subst he;exact (List.elem_iff.2 (List.mem_of_getElem? HX.out)).symm,rfl⟩)
    · have hb:(v == x) = false:=by simpa using he
      have hb':(x == v) = false:=by simpa using fun h => he h.symm
      have HB:=hide hb'
      clear he hb'
      go_wp2
      go_round
      case rel => exact ⟨k + 1,by omega,by go_num,hide (by rw [any_step HX.out,hno.out,HB.out];rfl)⟩
      case measure => simp [intOf];omega
  · go_wp2
    go_ret
    refine ⟨-1,rfl, ?_,rfl⟩
    have:=hno.out
    rw [show k = ls.length by omega,List.take_length] at this
    rw [decide_eq_false (by omega)]
    unfold hasL
    rcases Bool.eq_false_or_eq_true (ls.contains v) with h | h
    · have hm:=List.elem_iff.1 h
      rw [List.any_eq_false] at this
      exact absurd (this v hm) (by simp)
    · exact h.symm
set_option maxHeartbeats 400000 in
theorem contains_any (A:Option Addr) (ls:List Int) (c:Nat) (v:Int) (w:World) (h:Rd w w.heap.size A (ls.map (.int .i64))) (hlen:ls.length ≤ 9223372036854775807) :
 Calls Tryz.prog 230 #[.slice A ls.length c,.int .i64 v] w fun e w' => e = .returned (.bool (hasL ls v)) ∧ w' = w:=by
 have H:=hide h
 clear h
 go_enter Tryz.func230,Tryz.ntmps230
 go_wp2_with (go_at_call 258;refine (index_any A ls c v _ H.out hlen).mono ?_;rintro e w' ⟨r,rfl,hr,rfl⟩)
 go_ret
 exact ⟨rfl,rfl⟩
def posL (ls:List Int):Nat:=(ls.filter (fun x => decide (0 < x))).length
def okL (ls:List Int):Bool:=decide (roomW ls 15 = 0) && (decide (usedL 15 ls = 32768) || decide (posL ls = 0) || (decide (posL ls = 1) && hasL ls 1))
def okW (ls:List Int):Int:=if okL ls then 0 else 7
theorem posL_step {l:List Int} {k:Nat} {x:Int} (h:l[k]? = some x):posL (l.take (k + 1)) = posL (l.take k) + (if 0 < x then 1 else 0):=by
 unfold posL
 rw [List.take_add_one,h,List.filter_append,List.length_append]
 simp only [Option.toList_some,List.filter_cons,List.filter_nil]
 by_cases hx:0 < x <;> simp [hx]
set_option maxHeartbeats 1000000 in
theorem canonCheck_any (A:Option Addr) (ls:List Int) (c:Nat) (w:World) (h:Rd w w.heap.size A (ls.map (.int .i64))) (hlen:ls.length ≤ 9223372036854775807) :
 Calls Tryz.prog 178 #[.slice A ls.length c] w fun e w' => e = .returned (.int .i64 (okW ls)) ∧ w' = w:=by
 have H:=hide h
 clear h
 by_cases hr:roomW ls 15 = 0
 · have HR:=hide hr
   have hn:roomN ls 15 = 32768 - (usedL 15 ls:Nat):=by rw [roomN,hr,if_pos rfl];rfl
   obtain ⟨U,hU⟩:∃ U:Nat,U = usedL 15 ls:=⟨_,rfl⟩
   rw [← hU] at hn
   have HU:=hide hU
   have h512:ls.length ≤ 512:=by
    unfold roomW at hr
    rcases Nat.lt_or_ge 512 ls.length with h | h
    · rw [if_pos (by omega)] at hr;cases hr
    · exact h
   have room:∀ W,W = w → Calls Tryz.prog 229 #[.slice A ls.length c,.int .i64 15] W fun e w' => e = .returned (.tuple #[.int .i64 (32768 - (U:Int)),.int .i64 0]) ∧ w' = w:=fun W hW => by
    subst hW
    refine (room_any A ls c 15 W H.out hlen ⟨by omega,by omega⟩).mono ?_
    rintro e w' ⟨rfl,rfl⟩
    exact ⟨by rw [hn,HR.out],rfl⟩
   have hUb:=usedL_le 15 ls
   rw [← hU] at hUb
   have hUb:U ≤ 16777216:=by omega
   clear hr hn hU
   go_enter Tryz.func178,Tryz.ntmps178
   go_wp2_with (go_at_call 229;refine (room _ rfl).mono ?_;rintro e w' ⟨rfl,rfl⟩)
   clear room
   go_loop [5,17] (fun n i => ∃ k N:Nat,k ≤ ls.length ∧ i = .int .i64 k ∧ n = .int .i64 N ∧ N ≤ k ∧ Hid (N = posL (ls.take k))) (fun _ i => ls.length - (intOf i).toNat)
   case atStart => exact ⟨0,0,by omega,rfl,rfl,by omega,by simp [Hid,posL]⟩
   case round =>
    obtain ⟨k,N,hk,rfl,rfl,hNk,hN⟩:=hrel
    by_cases hlt:k < ls.length
    · obtain ⟨b,o,x,rfl,hb,hx,hc⟩:=H.out.int hlt
      have HX:=hide hx
      clear hx
      by_cases h0:0 < x
      · go_wp2
        go_round
        case rel => exact ⟨k + 1,N + 1,by omega,by go_num,by go_num,by omega,hide (by rw [posL_step HX.out,if_pos h0,hN.out])⟩
        case measure => simp [intOf];omega
      · go_wp2
        go_round
        case rel => exact ⟨k + 1,N,by omega,by go_num,rfl,by omega,hide (by rw [posL_step HX.out,if_neg h0,hN.out];rfl)⟩
        case measure => simp [intOf];omega
    · have hN':N = posL ls:=by have:=hN.out;rwa [show k = ls.length by omega,List.take_length] at this
      have HN:=hide hN'
      clear hN'
      have fin:∀ r:Int,r = okW ls → Hid (r = okW ls):=fun r h => h
      by_cases b1:U = 32768
      · have hf:okW ls = 0:=by simp [okW,okL,HR.out,← HU.out,b1]
        have HF:=hide hf
        clear hf
        go_wp2_with fail
        all_goals
         first
          | (exfalso;simp_all;done)
          | (go_ret;exact ⟨ret_int HF.out.symm,rfl⟩)
      · have b1':((32768:Int) - (U:Int) == 0) = false:=by simp;omega
        by_cases b2:N = 0
        · have hf:okW ls = 0:=by simp [okW,okL,HR.out,← HN.out,b2]
          have HF:=hide hf
          clear hf
          go_wp2_with fail
          all_goals
           first
            | (exfalso;simp_all;done)
            | (go_ret;exact ⟨ret_int HF.out.symm,rfl⟩)
        · have b2':((N:Int) == 0) = false:=by simp;omega
          by_cases b3:N = 1
          · by_cases b4:hasL ls 1 = true
            · have hf:okW ls = 0:=by simp [okW,okL,HR.out,← HN.out,b3,b4]
              have HF:=hide hf
              subst b3
              clear hf
              go_wp2_with (go_at_call 230;refine (contains_any A ls c 1 _ H.out hlen).mono ?_;rintro e w' ⟨rfl,rfl⟩)
              all_goals
               first
                | (exfalso;simp_all;done)
                | (go_ret;exact ⟨ret_int HF.out.symm,rfl⟩)
            · have b4:hasL ls 1 = false:=by simpa using b4
              have hf:okW ls = 7:=by simp [okW,okL,HR.out,← HN.out,← HU.out,b3,b4,b1]
              have HF:=hide hf
              subst b3
              clear hf
              go_wp2_with (go_at_call 230;refine (contains_any A ls c 1 _ H.out hlen).mono ?_;rintro e w' ⟨rfl,rfl⟩)
              all_goals
               first
                | (exfalso;simp_all;done)
                | (go_ret;exact ⟨ret_int HF.out.symm,rfl⟩)
          · have b3':((N:Int) == 1) = false:=by simp;omega
            have hf:okW ls = 7:=by simp [okW,okL,HR.out,← HN.out,← HU.out,b3,b2,b1]
            have HF:=hide hf
            clear hf
            go_wp2_with fail
            all_goals
             first
              | (exfalso;simp_all;done)
              | (go_ret;exact ⟨ret_int HF.out.symm,rfl⟩)
 · have hf:okW ls = 7:=by simp [okW,okL,hr]
   have HF:=hide hf
   have hn:roomN ls 15 = 0:=by rw [roomN,if_neg hr]
   obtain ⟨R,hR⟩:∃ R,R = roomW ls 15:=⟨_,rfl⟩
   have hb:(R != 0) = true:=by simpa [hR] using hr
   have room:∀ W,W = w → Calls Tryz.prog 229 #[.slice A ls.length c,.int .i64 15] W fun e w' => e = .returned (.tuple #[.int .i64 0,.int .i64 R]) ∧ w' = w:=fun W hW => by
    subst hW
    refine (room_any A ls c 15 W H.out hlen ⟨by omega,by omega⟩).mono ?_
    rintro e w' ⟨rfl,rfl⟩
    exact ⟨by rw [hn,hR],rfl⟩
   clear hf hn hr hR
   go_enter Tryz.func178,Tryz.ntmps178
   go_wp2_with (go_at_call 229;refine (room _ rfl).mono ?_;rintro e w' ⟨rfl,rfl⟩)
   all_goals
    first
     | (exfalso;simp_all;done)
     | (go_ret;exact ⟨ret_int HF.out.symm,rfl⟩)
def heavyB (x:Int):Bool:=decide (1099511627776 < x)
def alphaB (ws:List Int):Bool:=decide (ws.length ≤ 512) && !ws.any heavyB
theorem heavy_any (x:Int) (w:World):Calls Tryz.prog 185 #[.int .u64 x] w fun e w' => e = .returned (.bool (heavyB x)) ∧ w' = w:=by
 have hb:heavyB x = decide (1099511627776 < x):=rfl
 generalize heavyB x = b at hb ⊢
 go_enter Tryz.func185,Tryz.ntmps185
 go_wp2
 go_ret
 exact ⟨by rw [hb];rfl,rfl⟩
def IndexFP (ws:List Int) (w:World) (e:Ending) (w':World):Prop:=∃ r:Int,e = .returned (.int .i64 r) ∧ (decide (0 ≤ r) = ws.any heavyB) ∧ w' = w
set_option maxHeartbeats 400000 in
theorem indexF_any (A:Option Addr) (ws:List Int) (c:Nat) (w:World) (h:Rd w w.heap.size A (ws.map (.int .u64))) (hlen:ws.length ≤ 9223372036854775807) :
 Calls Tryz.prog 232 #[.slice A ws.length c,.func (.func 185) #[] #[]] w (IndexFP ws w):=by
 have H:=hide h
 clear h
 go_enter Tryz.func232,Tryz.ntmps232
 go_wp2_with fail
 go_loopw [8] (fun i wr => ∃ k:Nat,k ≤ ws.length ∧ i = .int .i64 k ∧ (ws.take k).any heavyB = false ∧ wr = w) (fun i _ => ws.length - (intOf i).toNat)
 case atStart => exact ⟨0,by omega,rfl,by simp,rfl⟩
 case round =>
  obtain ⟨k,hk,rfl,hno,rfl⟩:=hrel
  have HN:=hide hno
  clear hno
  by_cases hlt:k < ws.length
  · obtain ⟨b,o,x,rfl,hb,hx,hc⟩:=H.out.int hlt
    have HX:=hide hx
    have hv:=heavy_any x wr
    obtain ⟨v,hve⟩:∃ v,v = heavyB x:=⟨_,rfl⟩
    rw [← hve] at hv
    have HV:=hide hve
    have HC:=hide hv
    clear hx hv hve
    cases v with
    | true =>
      go_wp2_with (go_at_call 185;refine (Calls.mono HC.out ?_);rintro e w1 ⟨rfl,hww⟩;replace hww:=hww.symm;subst hww)
      go_ret
      refine ⟨k,rfl, ?_,rfl⟩
      rw [decide_eq_true (by omega)]
      exact (any_of HX.out HV.out.symm).symm
    | false =>
      go_wp2_with (go_at_call 185;refine (Calls.mono HC.out ?_);rintro e w1 ⟨rfl,hww⟩;replace hww:=hww.symm;subst hww)
      go_roundw
      case rel => exact ⟨k + 1,by omega,by go_num,by rw [any_step HX.out,HN.out,← HV.out];rfl,by first | rfl | trivial⟩
      case measure => simp [intOf];omega
  · go_wp2_with fail
    go_ret
    refine ⟨-1,rfl, ?_,rfl⟩
    have:=HN.out
    rw [List.take_of_length_le (by omega)] at this
    rw [this];rfl
theorem containsF_any (A:Option Addr) (ws:List Int) (c:Nat) (w:World) (h:Rd w w.heap.size A (ws.map (.int .u64))) (hlen:ws.length ≤ 9223372036854775807) :
 Calls Tryz.prog 184 #[.slice A ws.length c,.func (.func 185) #[] #[]] w fun e w' => e = .returned (.bool (ws.any heavyB)) ∧ w' = w:=by
 have ix:=indexF_any A ws c w h hlen
 have HI:=hide ix
 clear ix h
 go_enter Tryz.func184,Tryz.ntmps184
 go_wp2_with (go_at_call 232;refine (Calls.mono HI.out ?_);rintro e w1 ⟨r,rfl,hr,hww⟩;replace hww:=hww.symm;subst hww;have HR:=hide hr;clear hr)
 go_ret
 exact ⟨ret_bool HR.out,rfl⟩
theorem alphabet_any (A:Option Addr) (ws:List Int) (c:Nat) (w:World) (h:Rd w w.heap.size A (ws.map (.int .u64))) (hlen:ws.length ≤ 9223372036854775807) :
 Calls Tryz.prog 133 #[.slice A ws.length c] w fun e w' => e = .returned (.bool (alphaB ws)) ∧ w' = w:=by
 have ix:=containsF_any A ws c w h hlen
 have hb:alphaB ws = (decide (ws.length ≤ 512) && !ws.any heavyB):=rfl
 generalize ws.any heavyB = b at ix hb
 have HI:=hide ix
 have HB:=hide hb
 clear ix h hb
 by_cases g:ws.length ≤ 512
 · have gd:decide ((ws.length:Int) ≤ 512) = true:=decide_eq_true (by omega)
   go_enter Tryz.func133,Tryz.ntmps133
   go_wp2_with (go_at_call 184;refine (Calls.mono HI.out ?_);rintro e w1 ⟨rfl,hww⟩;replace hww:=hww.symm;subst hww)
   go_ret
   exact ⟨ret_bool (by rw [HB.out,decide_eq_true g];rfl),rfl⟩
 · have gd:decide ((ws.length:Int) ≤ 512) = false:=decide_eq_false (by omega)
   go_enter Tryz.func133,Tryz.ntmps133
   go_wp2_with (go_at_call 184;refine (Calls.mono HI.out ?_);rintro e w1 ⟨rfl,hww⟩;replace hww:=hww.symm;subst hww)
   go_ret
   exact ⟨ret_bool (by rw [HB.out,decide_eq_false g];rfl),rfl⟩
def cmpI (x y:Int):Int:=if x < y then -1 else if y < x then 1 else 0
theorem cmpI_neg (x y:Int):decide (cmpI x y < 0) = decide (x < y):=by
 unfold cmpI
 by_cases h:x < y
 · rw [if_pos h];simp [h]
 · rw [if_neg h]
   split <;> simp [h]
theorem isNaN_any (x:Int) (w:World):Calls Tryz.prog 234 #[.int .u64 x] w fun e w' => e = .returned (.bool false) ∧ w' = w:=by
 go_enter Tryz.func234,Tryz.ntmps234
 go_wp2
 go_ret
 exact ⟨by first | rfl | (simp;done),rfl⟩
theorem compare_any (x y:Int) (w:World):Calls Tryz.prog 188 #[.int .u64 x,.int .u64 y] w fun e w' => e = .returned (.int .i64 (cmpI x y)) ∧ w' = w:=by
 have nan:=fun (z:Int) (W:World) => isNaN_any z W
 have HN:=hide nan
 clear nan
 by_cases h:x < y
 · have e1:cmpI x y = -1:=if_pos h
   rw [e1]
   go_enter Tryz.func188,Tryz.ntmps188
   go_wp2_with (go_at_call 234;refine (Calls.mono (HN.out _ _) ?_);rintro e w1 ⟨rfl,hww⟩;replace hww:=hww.symm;subst hww)
   go_ret
   exact ⟨rfl,rfl⟩
 · by_cases h2:y < x
   · have e1:cmpI x y = 1:=by unfold cmpI;rw [if_neg h,if_pos h2]
     rw [e1]
     go_enter Tryz.func188,Tryz.ntmps188
     go_wp2_with (go_at_call 234;refine (Calls.mono (HN.out _ _) ?_);rintro e w1 ⟨rfl,hww⟩;replace hww:=hww.symm;subst hww)
     go_ret
     exact ⟨rfl,rfl⟩
   · have e1:cmpI x y = 0:=by unfold cmpI;rw [if_neg h,if_neg h2]
     rw [e1]
     go_enter Tryz.func188,Tryz.ntmps188
     go_wp2_with (go_at_call 234;refine (Calls.mono (HN.out _ _) ?_);rintro e w1 ⟨rfl,hww⟩;replace hww:=hww.symm;subst hww)
     go_ret
     exact ⟨rfl,rfl⟩
theorem lcmp_any (B:Nat) (A:Option Addr) (ws:List Int) (c x y:Nat) (w:World) (hB:w.cell? ⟨B,0,none⟩ = some (.slice A ws.length c)) (h:Rd w w.heap.size A (ws.map (.int .u64))) (hx:x < ws.length) (hy:y < ws.length) :
 Calls Tryz.prog 187 #[.int .i64 x,.int .i64 y,.pointer (some ⟨B,0,none⟩)] w fun e w' => e = .returned (.int .i64 (cmpI (ws.getD x 0) (ws.getD y 0))) ∧ ∃ j,w' = w.drewN j:=by
 obtain ⟨b,o,u,hA,hb,hu,hc⟩:=h.int hx
 obtain ⟨b2,o2,v,hA2,hb2,hv,hc2⟩:=h.int hy
 subst hA
 simp only [Option.some.injEq,Addr.mk.injEq,and_true] at hA2
 obtain ⟨rfl,rfl⟩:=hA2
 have e1:ws.getD x 0 = u:=by rw [List.getD_eq_getElem?_getD,hu];rfl
 have e2:ws.getD y 0 = v:=by rw [List.getD_eq_getElem?_getD,hv];rfl
 rw [e1,e2]
 have cp:=fun (W:World) => compare_any u v W
 have HC:=hide cp
 clear cp h hu hv e1 e2
 go_enter Tryz.func187,Tryz.ntmps187
 go_wp2_with fail
 go_quiet ((go_at_call 188;exact Calls.quiet_of_same (HC.out _)))
 go_wp2_with fail
 go_ret
 exact ⟨rfl,_,rfl⟩
def cntT (ls:List Int) (l i:Nat):Nat:=(ls.take i).countP (fun x => decide (x = (l:Int)))
def cntC (ls:List Int) (l:Nat):Nat:=cntT ls l ls.length
def nxtC (ls:List Int):Nat → Nat
 | 0 => 0
 | l + 1 => 2 * nxtC ls l + cntC ls (l + 1)
def fstC (ls:List Int) (l:Nat):Nat:=2 * nxtC ls (l - 1)
def lenN (ls:List Int) (j:Nat):Nat:=(ls.getD j 0).toNat
def codeN (ls:List Int) (j:Nat):Nat:=if 1 ≤ lenN ls j ∧ lenN ls j ≤ 15 then fstC ls (lenN ls j) + cntT ls (lenN ls j) j else 0
def idxT (ls:List Int) (l i:Nat):List Nat:=(List.range i).filter (fun j => decide (ls[j]? = some (l:Int)))
def idxC (ls:List Int) (l:Nat):List Nat:=idxT ls l ls.length
def symC (ls:List Int):Nat → List Nat
 | 0 => []
 | l + 1 => symC ls l ++ idxC ls (l + 1)
theorem cntT_le (ls:List Int) (l i:Nat):cntT ls l i ≤ ls.length:=by
 unfold cntT
 exact Nat.le_trans List.countP_le_length (by simp;omega)
theorem cntT_step {ls:List Int} {l i:Nat} {x:Int} (h:ls[i]? = some x):cntT ls l (i + 1) = cntT ls l i + (if x = (l:Int) then 1 else 0):=by
 unfold cntT
 rw [List.take_add_one,h,List.countP_append]
 by_cases hx:x = (l:Int) <;> simp [hx]
theorem cntT_zero (ls:List Int) (l:Nat):cntT ls l 0 = 0:=by simp [cntT]
theorem idxT_step {ls:List Int} {l i:Nat} {x:Int} (h:ls[i]? = some x):idxT ls l (i + 1) = idxT ls l i ++ (if x = (l:Int) then [i] else []):=by
 unfold idxT
 rw [List.range_succ,List.filter_append]
 by_cases hx:x = (l:Int) <;> simp [h,hx]
theorem idxT_zero (ls:List Int) (l:Nat):idxT ls l 0 = []:=by simp [idxT]
theorem idxT_length (ls:List Int) (l i:Nat) (h:i ≤ ls.length):(idxT ls l i).length = cntT ls l i:=by
 induction i with
 | zero => simp [idxT,cntT]
 | succ i ih =>
   have hx:ls[i]? = some ls[i]:=List.getElem?_eq_getElem (by omega)
   rw [idxT_step hx,cntT_step hx,List.length_append,ih (by omega)]
   split <;> simp
theorem nxtC_le (ls:List Int) (l:Nat):nxtC ls l ≤ l * ls.length * 2 ^ l:=by
 induction l with
 | zero => simp [nxtC]
 | succ l ih =>
   rw [nxtC]
   have h1:cntC ls (l + 1) ≤ ls.length:=cntT_le _ _ _
   have h2:ls.length * 1 ≤ ls.length * 2 ^ (l + 1):=Nat.mul_le_mul_left _ (Nat.two_pow_pos _)
   have h3:(l + 1) * ls.length * 2 ^ (l + 1) = 2 * (l * ls.length * 2 ^ l) + ls.length * 2 ^ (l + 1):=by
    rw [Nat.add_mul,Nat.add_mul,Nat.one_mul,Nat.pow_succ,← Nat.mul_assoc (l * ls.length)];omega
   omega
theorem nxtC_small {ls:List Int} {l:Nat} (h:ls.length ≤ 512) (hl:l ≤ 15):nxtC ls l ≤ 300000000:=by
 have h1:=nxtC_le ls l
 have h2:l * ls.length ≤ 15 * 512:=Nat.mul_le_mul hl h
 have h3:2 ^ l ≤ 2 ^ 15:=Nat.pow_le_pow_right (by omega) hl
 have:=Nat.mul_le_mul h2 h3
 omega
def tab (n:Nat) (f:Nat → Int):List Int:=(List.range n).map f
@[simp] theorem tab_length (n:Nat) (f:Nat → Int):(tab n f).length = n:=by simp [tab]
theorem tab_get {n i:Nat} (f:Nat → Int) (h:i < n):(tab n f)[i]? = some (f i):=by simp [tab,h]
theorem tab_set (n i:Nat) (f:Nat → Int) (v:Int):(tab n f).set i v = tab n (fun j => if j = i then v else f j):=by
 apply List.ext_getElem?
 intro k
 by_cases hk:k < n
 · rw [tab_get _ hk,List.getElem?_set]
   simp only [tab_length]
   by_cases h:i = k
   · subst h;simp [hk]
   · rw [if_neg h,tab_get _ hk,if_neg (fun e => h e.symm)]
 · rw [List.getElem?_eq_none (by simp;omega),List.getElem?_eq_none (by simp;omega)]
theorem tab_congr {n:Nat} {f g:Nat → Int} (h:∀ i,i < n → f i = g i):tab n f = tab n g :=
 List.map_congr_left fun i hi => h i (by simpa using hi)
def cntP (ls:List Int) (l i:Nat):Nat → Int:=fun j => if j = 0 then 0 else if j < l then (cntC ls j:Nat) else if j = l then (cntT ls l i:Nat) else 0
def fstP (ls:List Int) (l:Nat):Nat → Int:=fun j => if j = 0 then 0 else if j ≤ l then (fstC ls j:Nat) else 0
def codP (ls:List Int) (l i:Nat):Nat → Int:=fun j => if lenN ls j = 0 then 0 else if lenN ls j < l ∨ (lenN ls j = l ∧ j < i) then (codeN ls j:Nat) else 0
theorem cntP_hit {ls:List Int} {l i:Nat} (h1:1 ≤ l) (h15:l ≤ 15) (h:ls[i]? = some (l:Int)):(tab 16 (cntP ls l i)).set l ((cntT ls l i:Nat) + 1:Int) = tab 16 (cntP ls l (i + 1)):=by
 rw [tab_set]
 refine tab_congr fun j hj => ?_
 unfold cntP
 rw [cntT_step h,if_pos rfl]
 by_cases e:j = l
 · subst e;simp;omega
 · simp [e]
theorem cntP_miss {ls:List Int} {l i:Nat} {x:Int} (h:ls[i]? = some x) (hx:¬ x = (l:Int)):cntP ls l (i + 1) = cntP ls l i:=by
 unfold cntP;rw [cntT_step h,if_neg hx];rfl
theorem cntP_next (ls:List Int) (l:Nat) (h1:1 ≤ l):cntP ls l ls.length = cntP ls (l + 1) 0:=by
 funext j
 unfold cntP
 rw [cntT_zero]
 by_cases h0:j = 0
 · simp [h0]
 · by_cases hl:j < l
   · simp [h0,hl];omega
   · by_cases he:j = l
     · subst he;simp [h0];rfl
     · simp [h0,hl,he];omega
theorem fstP_next (ls:List Int) (l:Nat) (h1:1 ≤ l) (h15:l ≤ 15):(tab 16 (fstP ls (l - 1))).set l (fstC ls l:Nat) = tab 16 (fstP ls l):=by
 rw [tab_set]
 refine tab_congr fun j hj => ?_
 unfold fstP
 by_cases e:j = l
 · subst e;simp;omega
 · simp only [e,if_false]
   by_cases h0:j = 0
   · simp [h0]
   · by_cases hl:j ≤ l - 1
     · rw [if_neg h0,if_pos hl,if_neg h0,if_pos (by omega)]
     · rw [if_neg h0,if_neg hl,if_neg h0,if_neg (by omega)]
theorem lenN_of {ls:List Int} {i:Nat} {x:Int} (h:ls[i]? = some x):lenN ls i = x.toNat:=by
 unfold lenN;rw [List.getD_eq_getElem?_getD,h];rfl
theorem codP_hit {ls:List Int} {l i:Nat} (h1:1 ≤ l) (h15:l ≤ 15) (h:ls[i]? = some (l:Int)) :
 (tab ls.length (codP ls l i)).set i ((fstC ls l + cntT ls l i:Nat):Int) = tab ls.length (codP ls l (i + 1)):=by
 rw [tab_set]
 refine tab_congr fun j hj => ?_
 have hi:lenN ls i = l:=by rw [lenN_of h];omega
 unfold codP
 by_cases e:j = i
 · subst e
   rw [if_pos rfl,hi,if_neg (by omega),if_pos (by omega)]
   unfold codeN
   rw [hi,if_pos ⟨h1,h15⟩]
 · rw [if_neg e]
   by_cases h0:lenN ls j = 0
   · rw [if_pos h0,if_pos h0]
   · rw [if_neg h0,if_neg h0]
     by_cases hc:lenN ls j < l ∨ (lenN ls j = l ∧ j < i)
     · rw [if_pos hc,if_pos (by omega)]
     · rw [if_neg hc,if_neg (by omega)]
theorem codP_miss {ls:List Int} {l i:Nat} {x:Int} (h1:1 ≤ l) (h:ls[i]? = some x) (hx:¬ x = (l:Int)):codP ls l (i + 1) = codP ls l i:=by
 funext j
 unfold codP
 by_cases e:j = i
 · subst e
   have:lenN ls j ≠ l:=by rw [lenN_of h];omega
   simp [this]
 · by_cases h0:lenN ls j = 0
   · rw [if_pos h0,if_pos h0]
   · rw [if_neg h0,if_neg h0]
     by_cases hc:lenN ls j < l ∨ (lenN ls j = l ∧ j < i)
     · rw [if_pos (by omega),if_pos hc]
     · rw [if_neg (by omega),if_neg hc]
theorem codP_next (ls:List Int) (l:Nat):tab ls.length (codP ls l ls.length) = tab ls.length (codP ls (l + 1) 0):=by
 refine tab_congr fun j hj => ?_
 unfold codP
 by_cases h0:lenN ls j = 0
 · rw [if_pos h0,if_pos h0]
 · rw [if_neg h0,if_neg h0]
   by_cases hc:lenN ls j < l ∨ (lenN ls j = l ∧ j < ls.length)
   · rw [if_pos hc,if_pos (by omega)]
   · rw [if_neg hc,if_neg (by omega)]
def bookC (cnt fst:List Int) (v cv lv:Value):Array Value:=(cnt.map (Value.int .i64) ++ (fst.map (Value.int .u64) ++ [v,cv,lv])).toArray
section
variable {cnt fst:List Int} {v cv lv:Value}
theorem bookC_cnt (hc:cnt.length = 16) {i:Nat} {x:Int} (h:cnt[i]? = some x):(bookC cnt fst v cv lv)[i]? = some (.int .i64 x):=by
 have hi:i < 16:=by rw [← hc];exact (List.getElem?_eq_some_iff.1 h).1
 simp only [bookC,List.getElem?_toArray]
 rw [List.getElem?_append_left (by simp;omega),List.getElem?_map,h];rfl
theorem bookC_fst (hc:cnt.length = 16) {i:Nat} {x:Int} (h:fst[i]? = some x):(bookC cnt fst v cv lv)[16 + i]? = some (.int .u64 x):=by
 have hi:i < fst.length:=(List.getElem?_eq_some_iff.1 h).1
 simp only [bookC,List.getElem?_toArray]
 rw [List.getElem?_append_right (by simp;omega),List.getElem?_append_left (by simp;omega),List.length_map,hc,List.getElem?_map,show 16 + i - 16 = i by omega,h];rfl
theorem bookC_tail (hc:cnt.length = 16) (hf:fst.length = 16):(bookC cnt fst v cv lv)[32]? = some v ∧ (bookC cnt fst v cv lv)[33]? = some cv ∧ (bookC cnt fst v cv lv)[34]? = some lv:=by
 simp only [bookC,List.getElem?_toArray]
 refine ⟨?_, ?_, ?_⟩ <;> rw [List.getElem?_append_right (by simp;omega),List.getElem?_append_right (by simp;omega)] <;> simp [hc,hf]
theorem bookC_setCnt (hc:cnt.length = 16) (i:Nat) (hi:i < 16) (x:Int):(bookC cnt fst v cv lv).setIfInBounds i (.int .i64 x) = bookC (cnt.set i x) fst v cv lv:=by
 simp only [bookC,List.setIfInBounds_toArray]
 rw [List.set_append_left _ _ (by simp;omega),List.map_set]
theorem bookC_setFst (hc:cnt.length = 16) (hf:fst.length = 16) (i:Nat) (hi:i < 16) (x:Int):(bookC cnt fst v cv lv).setIfInBounds (16 + i) (.int .u64 x) = bookC cnt (fst.set i x) v cv lv:=by
 simp only [bookC,List.setIfInBounds_toArray]
 rw [List.set_append_right _ _ (by simp;omega),List.set_append_left _ _ (by simp;omega),List.length_map,hc,show 16 + i - 16 = i by omega,List.map_set]
theorem bookC_setSym (hc:cnt.length = 16) (hf:fst.length = 16) (u:Value):(bookC cnt fst v cv lv).setIfInBounds 32 u = bookC cnt fst u cv lv:=by
 simp only [bookC,List.setIfInBounds_toArray]
 rw [List.set_append_right _ _ (by simp;omega),List.set_append_right _ _ (by simp;omega)]
 simp [hc,hf]
end
theorem bookC_zero (v cv lv:Value):bookC (tab 16 fun _ => 0) (tab 16 fun _ => 0) v cv lv = #[.int .i64 0,.int .i64 0,.int .i64 0,.int .i64 0,.int .i64 0,.int .i64 0,.int .i64 0,.int .i64 0,.int .i64 0,.int .i64 0,.int .i64 0,.int .i64 0,.int .i64 0,.int .i64 0,.int .i64 0,.int .i64 0,
 .int .u64 0,.int .u64 0,.int .u64 0,.int .u64 0,.int .u64 0,.int .u64 0,.int .u64 0,.int .u64 0,.int .u64 0,.int .u64 0,.int .u64 0,.int .u64 0,.int .u64 0,.int .u64 0,.int .u64 0,.int .u64 0,v,cv,lv]:=rfl
theorem alphaB_at {ws:List Int} (h:alphaB ws = true):ws.length ≤ 512 ∧ ∀ x ∈ ws,x ≤ 1099511627776:=by
 unfold alphaB at h
 simp only [Bool.and_eq_true,decide_eq_true_eq,Bool.not_eq_true'] at h
 refine ⟨h.1,fun x hx => ?_⟩
 have:=List.any_eq_false.1 h.2 x hx
 unfold heavyB at this
 simpa using this
abbrev bstr (s:ByteArray) (n:Int):Value:=.agg #[.string s,.int .i64 n]
theorem chkB_yes {s:ByteArray} {n:Int} (h0:0 ≤ n) (h1:n ≤ 1048576) (h2:((s.size:Int) != (n + 8 - 1) / 8) = false) (h3:n % 8 = 0 ∨ byt s (s.size - 1) * 2 ^ (n % 8).toNat % 256 = 0):chkB s n = 0:=by
 have h2:(s.size:Int) = (n + 8 - 1) / 8:=by simpa using h2
 have:rightB s n = true:=by
  simp only [rightB,Bool.and_eq_true,Bool.or_eq_true,decide_eq_true_eq]
  exact ⟨⟨h0,h1,by omega⟩,h3⟩
 simp [chkB,this]
theorem chkB_no {s:ByteArray} {n:Int} (h:n < 0 ∨ 1048576 < n ∨ ((s.size:Int) != (n + 8 - 1) / 8) = true ∨ (n % 8 ≠ 0 ∧ byt s (s.size - 1) * 2 ^ (n % 8).toNat % 256 ≠ 0)):chkB s n = 2:=by
 have:rightB s n = false:=by
  rcases Bool.eq_false_or_eq_true (rightB s n) with hr | hr
  · exfalso
    simp only [rightB,Bool.and_eq_true,Bool.or_eq_true,decide_eq_true_eq] at hr
    obtain ⟨⟨a,b,c⟩,d⟩:=hr
    rcases h with h | h | h | h
    · omega
    · omega
    · simp at h;omega
    · rcases d with d | d
      · exact h.1 d
      · exact h.2 d
  · exact hr
 simp [chkB,this]
theorem low_cast (x r:Nat):((x:Nat):Int) * 2 ^ r % 256 = ((x * 2 ^ r % 256:Nat):Int):=by
 rw [Int.natCast_emod,Int.natCast_mul,Int.natCast_pow];rfl
theorem low_ne {x:Nat} {r:Nat} (d:(((x:Nat):Int) * 2 ^ r % 256 != 0) = true):x * 2 ^ r % 256 ≠ 0:=by
 rw [low_cast,bne_iff_ne] at d
 omega
theorem low_eq {x:Nat} {r:Nat} (d:(((x:Nat):Int) * 2 ^ r % 256 != 0) = false):x * 2 ^ r % 256 = 0:=by
 rw [low_cast] at d
 rcases Nat.eq_zero_or_pos (x * 2 ^ r % 256) with h | h
 · exact h
 · rw [bne_iff_ne.2 (by omega)] at d;cases d
set_option maxHeartbeats 400000 in
theorem check_any (s:ByteArray) (n:Int) (w:World) (h0:I64 n) (hs:s.size ≤ 9223372036854775807) :
 Calls Tryz.prog 34 #[bstr s n] w fun e w' => e = .returned (.int .i64 (chkB s n)) ∧ Below w.heap.size w w':=by
 obtain ⟨h0,h1⟩:=h0
 go_enter Tryz.func34,Tryz.ntmps34
 go_wp2
 · have a:(n < 0 ∨ 1048576 < n) ∨ ((s.size:Int) != (n + 8 - 1) / 8) = true:=by assumption
   go_ret
   exact ⟨ret_int (chkB_no (by rcases a with a | a <;> simp [a] <;> omega)).symm,by go_grown⟩
 · have a:(0 ≤ n ∧ n ≤ 1048576) ∧ ((s.size:Int) != (n + 8 - 1) / 8) = false:=by assumption
   have b:0 < n % 8:=by assumption
   have c:(1:Int) ≤ ↑s.size ∧ (s.size:Int) - 1 < ↑s.size:=by assumption
   rename_i d
   rw [byt_of s (by omega)] at d
   go_ret
   exact ⟨ret_int (chkB_no (.inr (.inr (.inr ⟨by omega,fun h => low_ne d h⟩)))).symm,by go_grown⟩
 · have a:(0 ≤ n ∧ n ≤ 1048576) ∧ ((s.size:Int) != (n + 8 - 1) / 8) = false:=by assumption
   have b:0 < n % 8:=by assumption
   have c:(1:Int) ≤ ↑s.size ∧ (s.size:Int) - 1 < ↑s.size:=by assumption
   rename_i d
   rw [byt_of s (by omega)] at d
   go_ret
   exact ⟨ret_int (chkB_yes a.1.1 a.1.2 a.2 (.inr (low_eq d))).symm,by go_grown⟩
 · exfalso
   have a:(0 ≤ n ∧ n ≤ 1048576) ∧ ((s.size:Int) != (n + 8 - 1) / 8) = false:=by assumption
   have b:0 < n % 8:=by assumption
   have c:¬ ((1:Int) ≤ ↑s.size ∧ (s.size:Int) - 1 < ↑s.size):=by assumption
   have:=a.2;simp at this;omega
 · have a:(0 ≤ n ∧ n ≤ 1048576) ∧ ((s.size:Int) != (n + 8 - 1) / 8) = false:=by assumption
   have b:n % 8 ≤ 0:=by assumption
   go_ret
   exact ⟨ret_int (chkB_yes a.1.1 a.1.2 a.2 (.inl (by omega))).symm,by go_grown⟩
 · go_ret
   exact ⟨ret_int (chkB_no (.inr (.inl (by assumption)))).symm,by go_grown⟩
 · go_ret
   exact ⟨ret_int (chkB_no (.inl (by assumption))).symm,by go_grown⟩
theorem get_next (s:ByteArray) (at0 k A V n:Nat) (hA:A = at0 + k) (hk:k + V ≤ 64) (hV:A % 8 + V ≤ 8) (hs:A / 8 < s.size) (hn:n = getN s at0 k) :
 bits .or .u64 (IntKind.u64.wrap ((n:Int) * 2 ^ V)) (bits .and .u64 (IntKind.u64.wrap ((s[A / 8]'hs).toNat:Int) / 2 ^ (8 - A % 8 - V)) (IntKind.u64.wrap (IntKind.u64.wrap (2 ^ V) - 1))) = (getN s at0 (k + V):Nat):=by
 rw [byt_of,get_step _ _ _ _ (byt_lt _ _) (by omega),hn,getN_add,← hA,getN_byte s A V hV]
 have h1:=getN_lt s at0 k
 have h2:(getN s at0 k + 1) * 2 ^ V ≤ 2 ^ k * 2 ^ V:=Nat.mul_le_mul_right _ h1
 rw [← Nat.pow_add,Nat.add_mul,Nat.one_mul] at h2
 have h3:2 ^ (k + V) ≤ 2 ^ 64:=Nat.pow_le_pow_right (by omega) hk
 rw [hn];omega
theorem get_next0 (s:ByteArray) (at0 k A n:Nat) (hA:A = at0 + k) (hk:k + (8 - A % 8) ≤ 64) (hs:A / 8 < s.size) (hn:n = getN s at0 k) :
 bits .or .u64 (IntKind.u64.wrap ((n:Int) * 2 ^ (8 - A % 8))) (bits .and .u64 (IntKind.u64.wrap ((s[A / 8]'hs).toNat:Int)) (IntKind.u64.wrap (IntKind.u64.wrap (2 ^ (8 - A % 8)) - 1))) = (getN s at0 (k + (8 - A % 8)):Nat):=by
 have h:=get_next s at0 k A (8 - A % 8) n hA hk (by omega) hs hn
 rw [Nat.sub_self,Int.pow_zero,Int.ediv_one] at h
 exact h
set_option maxHeartbeats 1000000 in
theorem get_any (s:ByteArray) (m:Int) (at0 wd:Nat) (w:World) (hw:wd ≤ 64) (ha:at0 + wd ≤ 8 * s.size) (hs:s.size ≤ 1000000000) :
 Calls Tryz.prog 231 #[bstr s m,.int .i64 at0,.int .i64 wd] w fun e w' => e = .returned (.int .u64 (getN s at0 wd)) ∧ Below w.heap.size w w':=by
 go_enter Tryz.func231,Tryz.ntmps231
 go_wp2
 go_loopw [1,2,7] (fun a v n wr => ∃ k:Nat,k ≤ wd ∧ a = .int .i64 ((at0 + k:Nat):Int) ∧ v = .int .i64 ((wd - k:Nat):Int) ∧ n = .int .u64 (getN s at0 k) ∧ Below w.heap.size w wr ∧ wr.cell? ⟨w.heap.size,0,none⟩ = some (.string s)) (fun _ v _ _ => (intOf v).toNat)
 case atStart => exact ⟨0,by omega,rfl,rfl,rfl,by go_grown,by simp [go_sem]⟩
 case round =>
  obtain ⟨k,hk,rfl,rfl,rfl,hbe,c0⟩:=hrel
  obtain ⟨A,hA⟩:∃ A,A = at0 + k:=⟨_,rfl⟩
  obtain ⟨V,hV⟩:∃ V,V = wd - k:=⟨_,rfl⟩
  obtain ⟨N,hN⟩:∃ N,N = getN s at0 k:=⟨_,rfl⟩
  rw [← hA,← hV,← hN]
  have HA:=hide hA
  have HV:=hide hV
  have HN:=hide hN
  have f1:0 < V → A / 8 < s.size:=by omega
  have f2:V ≤ 64:=by omega
  have f4:A ≤ 8000000000:=by omega
  clear hA hV hN
  by_cases h:0 < V
  · have f3:(A:Int) / 8 < s.size:=by have:=f1 h;omega
    have f3':=f1 h
    have e1:IntKind.i64.wrap ((A:Int) / 8) = (A:Int) / 8:=IntWalk.i64_in _ ⟨by omega,by omega⟩
    have e2:(0:Int) ≤ (A:Int) / 8:=by omega
    clear f1
    by_cases g:V ≤ 8 - A % 8
    · have m1:min (V:Int) (8 - (A:Int) % 8) = V:=by omega
      have e3:IntKind.i64.wrap (8 - (A:Int) % 8 - (V:Int)) = 8 - (A:Int) % 8 - (V:Int):=IntWalk.i64_in _ ⟨by omega,by omega⟩
      have e4:(0:Int) ≤ 8 - (A:Int) % 8 - (V:Int):=by omega
      go_wp2
      go_region
      go_wp2
      go_roundw
      case rel => exact ⟨wd,by omega,by have:=HA.out;have:=HV.out;go_num,by go_num,by rw [get_next s at0 k A V N HA.out (by have:=HV.out;omega) (by omega) f3' HN.out,show k + V = wd by have:=HV.out;omega],hbe.drew,by simpa [go_sem] using c0⟩
      case measure => simp [intOf];omega
    · have m1:min (V:Int) (8 - (A:Int) % 8) = 8 - (A:Int) % 8:=by omega
      have e4:(1:Int) ≤ 8 - (A:Int) % 8:=by omega
      go_wp2
      go_region
      go_wp2
      go_roundw
      case rel => exact ⟨k + (8 - A % 8),by have:=HV.out;omega,by have:=HA.out;have:=HV.out;go_num,by have:=HV.out;go_num,by rw [get_next0 s at0 k A N HA.out (by have:=HV.out;omega) f3' HN.out],hbe.drew,by simpa [go_sem] using c0⟩
      case measure => simp [intOf];omega
  · go_wp2
    go_ret
    exact ⟨ret_int (by have:=HA.out;have:=HV.out;rw [HN.out,show k = wd by omega]),hbe⟩
set_option maxHeartbeats 400000 in
theorem at_any (s:ByteArray) (m:Int) (at0 wd:Nat) (w:World) (hw:wd ≤ 64) (ha:at0 + wd ≤ 8 * s.size) (hs:s.size ≤ 1000000000) :
 Calls Tryz.prog 180 #[bstr s m,.int .i64 at0,.int .i64 wd] w fun e w' => e = .returned (.int .u64 (getN s at0 wd)) ∧ Below w.heap.size w w':=by
 go_enter Tryz.func180,Tryz.ntmps180
 go_wp2_with (go_at_call 231;refine (get_any s m at0 wd _ hw ha hs).mono ?_;rintro e w' ⟨rfl,hb1⟩)
 go_ret
 exact ⟨rfl,by have:=hb1.mono (B':=w.heap.size) (by simp);exact (Below.alloc (Below.refl _ _) (Nat.le_refl _) _).trans this⟩
theorem info_u8:(Tryz.prog.info? 5).map (fun i => (i.zero,i.size,i.bytes)) = some (some (.int .u8 0),1,1):=by kernel_rfl
def wbits (out:List Nat) (last n:Nat):List Bool:=out.flatMap (natBits · 8) ++ natBits last n
theorem wbits_length (out:List Nat) (last n:Nat):(wbits out last n).length = 8 * out.length + n:=by
 unfold wbits
 rw [List.length_append,natBits_length]
 congr 1
 induction out with
 | nil => rfl
 | cons x l ih => simp [ih];omega
def Wr (w:World) (p:Nat) (row:Option Nat) (l:List Bool):Prop :=
 ∃ (v:Value) (out:List Nat) (last n:Nat),Bk w p 103 #[v,.int .u64 last,.int .i64 n] ∧ w.ownsRow 0 5 1 v out.length (vby out) ∧ v.ownBlock = row ∧
   n < 8 ∧ last < 2 ^ n ∧ (∀ b ∈ out,b < 256) ∧ wbits out last n = l
def wS (p:Nat) (row:Option Nat):Nat → Prop:=fun g => g = p ∨ row = some g
def rowNew (w:World) (row row':Option Nat):Prop:=row' = row ∨ ∃ g,row' = some g ∧ w.heap.size ≤ g
theorem wbits_more (out:List Nat) (last n x k:Nat) (hx:x < 2 ^ k):wbits out (last * 2 ^ k + x) (n + k) = wbits out last n ++ natBits x k:=by
 unfold wbits;rw [natBits_join _ _ _ _ hx,List.append_assoc]
theorem wbits_full (out:List Nat) (x:Nat):wbits (out ++ [x]) 0 0 = wbits out x 8:=by
 unfold wbits;simp [natBits]
theorem wr_step {l:List Bool} {out:List Nat} {last n v V k K:Nat} (hb:wbits out last n = l ++ natBits (v / 2 ^ V) k) (hK:K ≤ V) :
 wbits out (last * 2 ^ K + v / 2 ^ (V - K) % 2 ^ K) (n + K) = l ++ natBits (v / 2 ^ (V - K)) (k + K):=by
 rw [wbits_more _ _ _ _ _ (Nat.mod_lt _ (Nat.two_pow_pos K)),hb,natBits_mod _ _ _ (Nat.le_refl K),natBits_append,List.append_assoc,Nat.div_div_eq_div_mul,← Nat.pow_add,show V - K + K = V by omega]
theorem last_lt {last n x K:Nat} (hl:last < 2 ^ n) (hx:x < 2 ^ K):last * 2 ^ K + x < 2 ^ (n + K):=by
 have:(last + 1) * 2 ^ K ≤ 2 ^ n * 2 ^ K:=Nat.mul_le_mul_right _ hl
 rw [Nat.pow_add];rw [Nat.add_mul,Nat.one_mul] at this;omega
theorem rowNew.step {w wc:World} {row row1 row2:Option Nat} (h:rowNew w row row1) (h2:rowNew wc row1 row2) (hs:w.heap.size ≤ wc.heap.size):rowNew w row row2:=by
 rcases h2 with rfl | ⟨g,rfl,hg⟩
 · exact h
 · exact .inr ⟨g,rfl,by omega⟩
theorem wS_new {w:World} {p:Nat} {row row1:Option Nat} (h:rowNew w row row1):∀ g,row1 = some g → wS p row g ∨ w.heap.size ≤ g:=by
 rintro g rfl
 rcases h with h | ⟨g',h,hg⟩
 · exact .inl (.inr h.symm)
 · exact .inr (by simp at h;omega)
theorem wr_full {w wc w1:World} {p g1 cap1:Nat} {row row1:Option Nat} {v1:Value} {out:List Nat} {L:Nat} {l:List Bool} {cs:Array Value} {X:Obj}
 (hb:Bk wc p 103 cs) (hcs:cs.size = 3) (ho:wc.ownsRow 0 5 1 v1 out.length (vby out)) (hf:Fr (wS p row) w wc) (hr:v1.ownBlock = row1) (hrn:rowNew w row row1)
 (hgr:((wc.alloc X).drew).grownBy w1 v1.ownBlock) (hown:w1.ownsRow 0 5 1 (.slice (some ⟨g1,0,none⟩) (out.length + 1) cap1) (out.length + 1) (vby out ++ [.int .u8 (L:Nat)]))
 (hat:v1.ownBlock = some g1 ∨ g1 = wc.heap.size + 1) (hL:L < 256) (hout:∀ b ∈ out,b < 256) (hl:wbits out L 8 = l) (u1 u2:Value) (e1:u1 = .int .u64 0) (e2:u2 = .int .i64 0) :
 Wr (((w1.setCell ⟨p,0,none⟩ (.slice (some ⟨g1,0,none⟩) (out.length + 1) cap1)).setCell ⟨p,1,none⟩ u1).setCell ⟨p,2,none⟩ u2) p (some g1) l ∧
 rowNew w row (some g1) ∧ Fr (wS p row) w (((w1.setCell ⟨p,0,none⟩ (.slice (some ⟨g1,0,none⟩) (out.length + 1) cap1)).setCell ⟨p,1,none⟩ u1).setCell ⟨p,2,none⟩ u2):=by
 subst e1 e2 hr
 have hb1:Bk w1 p 103 cs:=((hb.alloc _).drew).grown hgr (own_ne ho hb (by decide))
 have hne:some p ≠ (Value.slice (some ⟨g1,0,none⟩) (out.length + 1) cap1).ownBlock:=own_ne hown hb1 (by decide)
 have hrn2:rowNew w row (some g1):=hrn.step (wc:=wc) (by rcases hat with h | h;exact .inl h.symm;exact .inr ⟨g1,rfl,by omega⟩) hf.size
 refine ⟨⟨.slice (some ⟨g1,0,none⟩) (out.length + 1) cap1,out ++ [L],0,0, ?_, ?_,rfl,by omega,by omega, ?_,by rw [wbits_full];exact hl⟩,hrn2, ?_⟩
 · have:=((hb1.set_ 0 (.slice (some ⟨g1,0,none⟩) (out.length + 1) cap1)).set_ 1 (.int .u64 0)).set_ 2 (.int .i64 0)
   obtain ⟨cs⟩:=cs
   match cs,hcs with
   | [a,b,c],_ => simpa using this
 · have e:(out ++ [L]).length = out.length + 1:=by simp
   rw [e]
   have:=own_set (p:=⟨p,2,none⟩) (own_set (p:=⟨p,1,none⟩) (own_set (p:=⟨p,0,none⟩) hown (fun h => hne h.symm) (.slice (some ⟨g1,0,none⟩) (out.length + 1) cap1)) (fun h => hne h.symm) (.int .u64 0)) (fun h => hne h.symm) (.int .i64 0)
   simpa [vby] using this
 · intro b hb
   rcases List.mem_append.1 hb with h | h
   · exact hout b h
   · simp at h;omega
 · have h1:Fr (wS p row) w w1:=((hf.alloc X).drew).trans (Fr.grown (S:=fun g => v1.ownBlock = some g) hgr (fun g hg => hg)) (fun g hg => wS_new hrn g hg)
   exact ((h1.setCell (.inl (.inl rfl)) _).setCell (.inl (.inl rfl)) _).setCell (.inl (.inl rfl)) _
set_option maxHeartbeats 1000000 in
theorem add_any (p:Nat) (row:Option Nat) (l:List Bool) (v wd:Nat) (w:World) (hv:v < 18446744073709551616) (hw:wd ≤ 64) (h:Wr w p row l) (hl:l.length + wd ≤ 1000000000000) :
 Calls Tryz.prog 103 #[.pointer (some ⟨p,0,none⟩),.int .u64 v,.int .i64 wd] w fun e w' => e = .returned (.tuple #[]) ∧ ∃ row',Wr w' p row' (l ++ natBits v wd) ∧ rowNew w row row' ∧ Fr (wS p row) w w':=by
 obtain ⟨i0,hi,hz0,hz1,hz2⟩:=info_parts info_u8
 go_enter Tryz.func103,Tryz.ntmps103
 go_wp2
 go_loopw [2] (fun x wr => ∃ k row1,k ≤ wd ∧ x = .int .i64 ((wd - k:Nat):Int) ∧ Wr wr p row1 (l ++ natBits (v / 2 ^ (wd - k)) k) ∧ rowNew w row row1 ∧ Fr (wS p row) w wr) (fun x _ => (intOf x).toNat)
 case atStart => exact ⟨0,row,by omega,rfl,by simpa [natBits] using h,.inl rfl,Fr.refl _ _⟩
 case round =>
  obtain ⟨k,row1,hk,rfl,hwr,hrn,hfr⟩:=hrel
  obtain ⟨V,hV⟩:∃ V,V = wd - k:=⟨_,rfl⟩
  rw [← hV] at hwr ⊢
  have HV:=hide hV
  have f2:V ≤ 64:=by omega
  clear hV
  have hwr0:=hide hwr
  obtain ⟨v1,out,last,n,hbk,hown,hrow,hn8,hlast,hout,hbits⟩:=hwr
  have c0:=hbk.cell 0
  have c1:=hbk.cell 1
  have c2:=hbk.cell 2
  have z0:=hbk.free 0
  have z1:=hbk.free 1
  have z2:=hbk.free 2
  simp at c0 c1 c2
  have hol:out.length ≤ 200000000000:=by have:=wbits_length out last n;rw [hbits] at this;simp at this;omega
  have HB:=hide hbits
  have HR:=hide hrow
  have HL:=hide hlast
  clear hbits hrow hlast
  by_cases h:0 < V
  · go_upto_region 1 with (fail)
    go_cut [6] (fun s6 wx => ∃ K:Nat,K ≤ V ∧ K ≤ 8 - n ∧ 0 < K ∧ (K = V ∨ K = 8 - n) ∧ s6 = .int .i64 K ∧ wr = wx)
    case first =>
     by_cases g:V < 8 - n
     · go_wp2
       all_goals go_meet
       all_goals first
        | exact ⟨V,by omega,by omega,h,.inl rfl,rfl,rfl⟩
        | exact ⟨8 - n,by omega,by omega,by omega,.inr rfl,by go_num,rfl⟩
     · go_wp2
       all_goals go_meet
       all_goals first
        | exact ⟨V,by omega,by omega,h,.inl rfl,rfl,rfl⟩
        | exact ⟨8 - n,by omega,by omega,by omega,.inr rfl,by go_num,rfl⟩
    case rest =>
    obtain ⟨K,hKV,hKn,hK0,hKe,rfl,rfl⟩:=hcut
    have e1:IntKind.i64.wrap ((V:Int) - (K:Int)) = (V:Int) - (K:Int):=IntWalk.i64_in _ ⟨by omega,by omega⟩
    have e2:(0:Int) ≤ (V:Int) - (K:Int):=by omega
    go_wp2
    go_region
    go_wp2
    go_cut [] (fun wx => Bk wx p 103 #[v1,.int .u64 ((last * 2 ^ K + v / 2 ^ (V - K) % 2 ^ K:Nat):Int),.int .i64 ((n + K:Nat):Int)] ∧ wx.ownsRow 0 5 1 v1 out.length (vby out) ∧ Fr (wS p row) w wx ∧ wr.heap.size ≤ wx.heap.size)
    case first =>
     go_region
     go_wp2
     go_meet
     have eL:bits .or .u64 (IntKind.u64.wrap ((last:Int) * 2 ^ K)) (bits .and .u64 ((v:Int) / 2 ^ (V - K)) (IntKind.u64.wrap (IntKind.u64.wrap (2 ^ K) - 1))) = ((last * 2 ^ K + v / 2 ^ (V - K) % 2 ^ K:Nat):Int):=by
      have e:(v:Int) / 2 ^ (V - K) = ((v / 2 ^ (V - K):Nat):Int):=by rw [Int.natCast_ediv,Int.natCast_pow];rfl
      have hd:=Nat.div_le_self v (2 ^ (V - K))
      have hm:=Nat.mod_lt (v / 2 ^ (V - K)) (Nat.two_pow_pos K)
      have h8:2 ^ (n + K) ≤ 2 ^ 8:=Nat.pow_le_pow_right (by omega) (by omega)
      have:=last_lt HL.out hm
      rw [e,mask_nat _ _ (by omega) (by omega),shl_or _ _ _ hm (by omega)]
     rw [eL]
     have hnp:v1.ownBlock ≠ some p:=fun h => own_ne hown hbk (by decide) h.symm
     refine ⟨Bk.drew (Bk.drew (by simpa using ((hbk.set_ 1 _).set_ 2 _))),own_set (p:=⟨p,2,none⟩) (own_set (p:=⟨p,1,none⟩) hown hnp _) hnp _,(((hfr.setCell (.inl (.inl rfl)) _).setCell (.inl (.inl rfl)) _).drew).drew,by simp [World.setCell]⟩
    case rest =>
     obtain ⟨hb,ho,hf,hsz⟩:=hcut
     have d0:=hb.cell 0
     have d1:=hb.cell 1
     have d2:=hb.cell 2
     have y0:=hb.free 0
     have y1:=hb.free 1
     have y2:=hb.free 2
     simp at d0 d1 d2
     clear c0 c1 c2 z0 z1 z2
     by_cases hfull:n + K = 8
     · have hdX:∀ X:Obj,(wc.alloc X).cell? ⟨p,0,none⟩ = some v1:=fun X => (World.cell?_alloc_lt wc X ⟨p,0,none⟩ hb.lt).trans d0
       have hoX:∀ X:Obj,Hid ((wc.alloc X).drew.ownsRow 0 5 1 v1 out.length (vby out)):=fun X => ho.alloc X
       have hcX:∀ (u:Value) (t:TypeId),Hid (∀ j x,[u][j]? = some x → (wc.alloc (.cells #[u] t)).drew.cell? ((⟨wc.heap.size,0,none⟩:Addr).add j) = some x):=fun u t => cell_one_new wc u t
       go_wp2
       go_region_law ((refine step_append_lies _ rfl (.tmp 60) (.tmp 66) 38 rfl 0 5 i0 (.int .u8 0) 1 1 Tryz.underlying38 hi hz0 hz1 hz2 rfl (by omega) v1 out.length (vby out) (by simp [Act.eval]) (hoX _).out ⟨wc.heap.size,0,none⟩ 1 1 [_] (by simp [Act.eval]) rfl (hcX _ _).out (by intro u hu;simp at hu;subst hu;rfl) (by omega) (by unfold maxLen;omega) (by omega) (Nat.zero_le _) (wc.heap.size + 1) (by simp) ?_;intro g1 cap1 w1 hown1 hgr1 hat1 hlt1;have hb1:=((hb.alloc _).drew).grown hgr1 (own_ne ho hb (by decide));have q0:=hb1.cell 0;have q1:=hb1.cell 1;have q2:=hb1.cell 2;have x0:=hb1.free 0;have x1:=hb1.free 1;have x2:=hb1.free 2;simp at q0 q1 q2))
       go_wp2
       all_goals
        have hm:=Nat.mod_lt (v / 2 ^ (V - K)) (Nat.two_pow_pos K)
        have hlt:=last_lt HL.out hm
        rw [hfull] at hlt
        have eU:IntKind.u8.wrap ((last:Int) * 2 ^ K + (v:Int) / 2 ^ (V - K) % 2 ^ K) = ((last * 2 ^ K + v / 2 ^ (V - K) % 2 ^ K:Nat):Int):=by
         have e:(last:Int) * 2 ^ K + (v:Int) / 2 ^ (V - K) % 2 ^ K = ((last * 2 ^ K + v / 2 ^ (V - K) % 2 ^ K:Nat):Int):=by
          rw [Int.natCast_add,Int.natCast_mul,Int.natCast_emod,Int.natCast_ediv,Int.natCast_pow,Int.natCast_pow];rfl
         rw [e];exact IntWalk.u8_in _ ⟨by omega,by omega⟩
        rw [eU] at hown1 hgr1
        obtain ⟨r1,r2,r3⟩:=wr_full (l:=l ++ natBits (v / 2 ^ (V - K)) (k + K)) hb rfl ho hf HR.out hrn hgr1 hown1 hat1 hlt hout (by rw [← wr_step HB.out hKV,hfull]) (.int .u64 0) (.int .i64 0) rfl rfl
        go_roundw
        case rel => exact ⟨k + K,some g1,by have:=HV.out;omega,by have:=HV.out;go_num,by rw [show wd - (k + K) = V - K by have:=HV.out;omega];exact r1,r2,r3⟩
        case measure => simp [intOf];omega
     · go_wp2
       go_roundw
       case rel =>
        have hm:=Nat.mod_lt (v / 2 ^ (V - K)) (Nat.two_pow_pos K)
        exact ⟨k + K,row1,by have:=HV.out;omega,by have:=HV.out;go_num,⟨v1,out,_,_,hb,ho,HR.out,by omega,last_lt HL.out hm,hout,by rw [wr_step HB.out hKV,show wd - (k + K) = V - K by have:=HV.out;omega]⟩,hrn,hf⟩
       case measure => simp [intOf];omega
  · go_wp2
    go_end0
    exact ⟨rfl,row1,by have:=hwr0.out;have e:=HV.out;rw [show V = 0 by omega,show k = wd by omega] at this;simpa using this,hrn,hfr⟩
def digitsF:Nat → Nat → List Nat
 | 0,_ => []
 | f + 1,n => if n = 0 then [] else (n - 1) % 2 :: digitsF f ((n - 1) / 2)
def digitsL (n:Nat):List Nat:=digitsF n n
def numL:List Nat → Nat
 | [] => 0
 | x :: d => x + 1 + 2 * numL d
theorem digitsF_any:∀ {f n:Nat},n ≤ f → digitsF f n = digitsL n:=by
 have key:∀ (f g n:Nat),n ≤ f → n ≤ g → digitsF f n = digitsF g n:=by
  intro f
  induction f with
  | zero =>
    intro g n h1 _
    obtain rfl:n = 0:=by omega
    cases g with
    | zero => rfl
    | succ g => rw [digitsF,digitsF,if_pos rfl]
  | succ f ih =>
    intro g n h1 h2
    by_cases h0:n = 0
    · subst h0
      cases g with
      | zero => rw [digitsF,digitsF,if_pos rfl]
      | succ g => rw [digitsF,digitsF,if_pos rfl,if_pos rfl]
    · cases g with
      | zero => omega
      | succ g => rw [digitsF,digitsF,if_neg h0,if_neg h0,ih g _ (by omega) (by omega)]
 intro f n h
 exact key f n n h (Nat.le_refl n)
theorem digitsL_zero:digitsL 0 = []:=rfl
theorem digitsL_pos {n:Nat} (h:0 < n):digitsL n = (n - 1) % 2 :: digitsL ((n - 1) / 2):=by
 obtain ⟨m,rfl⟩:∃ m,n = m + 1:=⟨n - 1,by omega⟩
 show digitsF (m + 1) (m + 1) = _
 rw [digitsF,if_neg (by omega),digitsF_any (by omega)]
theorem digitsL_lt:∀ (f:Nat) {n:Nat},n ≤ f → ∀ x ∈ digitsL n,x < 2:=by
 intro f
 induction f with
 | zero =>
   intro n h x hx
   obtain rfl:n = 0:=by omega
   simp [digitsL_zero] at hx
 | succ f ih =>
   intro n h x hx
   rcases Nat.eq_zero_or_pos n with rfl | hp
   · simp [digitsL_zero] at hx
   · rw [digitsL_pos hp] at hx
     rcases List.mem_cons.1 hx with rfl | hx
     · omega
     · exact ih (by omega) x hx
theorem num_digits:∀ (f:Nat) {n:Nat},n ≤ f → numL (digitsL n) = n:=by
 intro f
 induction f with
 | zero =>
   intro n h
   obtain rfl:n = 0:=by omega
   rfl
 | succ f ih =>
   intro n h
   rcases Nat.eq_zero_or_pos n with rfl | hp
   · rfl
   · rw [digitsL_pos hp,numL,ih (by omega)];omega
theorem digits_num {d:List Nat} (h:∀ x ∈ d,x < 2):digitsL (numL d) = d:=by
 induction d with
 | nil => rfl
 | cons x d ih =>
   have hx:=h x (by simp)
   rw [numL,digitsL_pos (by omega),show (x + 1 + 2 * numL d - 1) % 2 = x by omega,show (x + 1 + 2 * numL d - 1) / 2 = numL d by omega,ih (fun y hy => h y (List.mem_cons_of_mem _ hy))]
def encZ:Nat → List Nat → List Nat
 | n,[] => digitsL n ++ [257]
 | n,c :: s => if c = 0 then encZ (n + 1) s else digitsL n ++ (c + 1) :: encZ 0 s
theorem encZ_rep (n:Nat):∀ (m:Nat) (s:List Nat),encZ m (List.replicate n 0 ++ s) = encZ (m + n) s:=by
 induction n with
 | zero => intro m s;rfl
 | succ n ih =>
   intro m s
   rw [List.replicate_succ,List.cons_append,encZ,if_pos rfl,ih,Nat.add_assoc,Nat.add_comm 1]
def decZ:List Nat → List Nat → List Nat → Option (List Nat × List Nat)
 | _,_,[] => none
 | out,d,x :: l =>
   if x < 2 then decZ out (d ++ [x]) l
   else if x = 257 then some (out ++ List.replicate (numL d) 0,l)
   else if 257 < x then none
   else decZ (out ++ List.replicate (numL d) 0 ++ [x - 1]) [] l
theorem decZ_digits {d:List Nat} (h:∀ x ∈ d,x < 2):∀ (out e l:List Nat),decZ out e (d ++ l) = decZ out (e ++ d) l:=by
 induction d with
 | nil => intro out e l;rw [List.nil_append,List.append_nil]
 | cons x d ih =>
   intro out e l
   rw [List.cons_append,decZ,if_pos (h x (by simp)),ih (fun y hy => h y (List.mem_cons_of_mem _ hy)),List.append_assoc];rfl
theorem dec_enc {s:List Nat} (hs:∀ c ∈ s,c < 256):∀ (out:List Nat) (n:Nat) (r:List Nat),decZ out [] (encZ n s ++ r) = some (out ++ List.replicate n 0 ++ s,r):=by
 induction s with
 | nil =>
   intro out n r
   rw [encZ,List.append_assoc,decZ_digits (digitsL_lt n (Nat.le_refl n)),List.nil_append,List.singleton_append,decZ,if_neg (by decide),if_pos rfl,num_digits n (Nat.le_refl n),List.append_nil]
 | cons c s ih =>
   intro out n r
   have hc:=hs c (by simp)
   have ih:=ih (fun x hx => hs x (List.mem_cons_of_mem _ hx))
   rw [encZ]
   by_cases h0:c = 0
   · subst h0
     rw [if_pos rfl,ih,List.replicate_succ',List.append_assoc,List.append_assoc,List.append_assoc];rfl
   · rw [if_neg h0,List.append_assoc,decZ_digits (digitsL_lt n (Nat.le_refl n)),List.nil_append,List.cons_append,decZ,if_neg (by omega),if_neg (by omega),if_neg (by omega),num_digits n (Nat.le_refl n),ih,Nat.add_sub_cancel,List.replicate_zero,List.append_nil,List.append_assoc];rfl
theorem enc_dec:∀ {l out d t r:List Nat},decZ out d l = some (t,r) → (∀ x ∈ d,x < 2) → ∃ s,t = out ++ s ∧ (∀ c ∈ s,c < 256) ∧ d ++ l = encZ 0 s ++ r:=by
 intro l
 induction l with
 | nil => intro out d t r h _;cases h
 | cons x l ih =>
   intro out d t r h hd
   rw [decZ] at h
   by_cases h2:x < 2
   · rw [if_pos h2] at h
     obtain ⟨s,h3,h4,h5⟩:=ih h (fun y hy => by
      rcases List.mem_append.1 hy with hy | hy
      · exact hd y hy
      · rw [List.mem_singleton.1 hy];exact h2)
     exact ⟨s,h3,h4,by rw [← h5,List.append_assoc];rfl⟩
   · rw [if_neg h2] at h
     by_cases h257:x = 257
     · rw [if_pos h257] at h
       cases h
       subst h257
       refine ⟨List.replicate (numL d) 0,rfl,fun c hc => by rw [(List.mem_replicate.1 hc).2];decide, ?_⟩
       have:=encZ_rep (numL d) 0 []
       rw [List.append_nil] at this
       rw [this,Nat.zero_add,encZ,digits_num hd,List.append_assoc];rfl
     · rw [if_neg h257] at h
       by_cases h3:257 < x
       · rw [if_pos h3] at h;cases h
       · rw [if_neg h3] at h
         obtain ⟨s,h4,h5,h6⟩:=ih h (fun y hy => by simp at hy)
         refine ⟨List.replicate (numL d) 0 ++ (x - 1) :: s,by rw [h4];simp,fun c hc => ?_, ?_⟩
         · rcases List.mem_append.1 hc with hc | hc
           · rw [(List.mem_replicate.1 hc).2];decide
           · rcases List.mem_cons.1 hc with rfl | hc
             · omega
             · exact h5 c hc
         · rw [List.nil_append] at h6
           rw [encZ_rep,Nat.zero_add,encZ,if_neg (by omega),digits_num hd,Nat.sub_add_cancel (by omega),h6];simp
theorem encZ_sym:∀ {s:List Nat} (n:Nat),(∀ c ∈ s,c < 256) → ∀ x ∈ encZ n s,x ≤ 257:=by
 intro s
 induction s with
 | nil =>
   intro n _ x hx
   rw [encZ] at hx
   rcases List.mem_append.1 hx with hx | hx
   · have:=digitsL_lt n (Nat.le_refl n) x hx;omega
   · rw [List.mem_singleton.1 hx];decide
 | cons c s ih =>
   intro n h x hx
   have hc:=h c (by simp)
   have ih:=fun m => ih m (fun y hy => h y (List.mem_cons_of_mem _ hy))
   rw [encZ] at hx
   split at hx
   · exact ih _ x hx
   · rcases List.mem_append.1 hx with hx | hx
     · have:=digitsL_lt n (Nat.le_refl n) x hx;omega
     · rcases List.mem_cons.1 hx with rfl | hx
       · omega
       · exact ih _ x hx
def liftL (row:List Nat) (i:Nat):List Nat:=row.getD i 0 :: (row.take i ++ row.drop (i + 1))
def idxL (row:List Nat) (c:Nat):Nat:=row.findIdx (fun x => x == c)
structure RowOK (row:List Nat):Prop where
 len:row.length = 256
 nodup:row.Nodup
 lt:∀ c ∈ row,c < 256
theorem nodup_le:∀ (n:Nat) {l:List Nat},l.Nodup → (∀ x ∈ l,x < n) → l.length ≤ n:=by
 intro n
 induction n with
 | zero =>
   intro l _ h
   cases l with
   | nil => exact Nat.le_refl 0
   | cons x l => exact absurd (h x (by simp)) (by omega)
 | succ n ih =>
   intro l hn h
   by_cases hm:n ∈ l
   · have h1:=ih (hn.erase n) (fun x hx => by
      have hx2:=(List.Nodup.mem_erase_iff hn).1 hx
      have:=h x hx2.2
      have:=hx2.1
      omega)
     rw [List.length_erase_of_mem hm] at h1
     omega
   · have:=ih hn (fun x hx => by
      have:=h x hx
      have:x ≠ n:=fun e => hm (e ▸ hx)
      omega)
     omega
theorem nodup_full {n:Nat} {l:List Nat} (hn:l.Nodup) (h:∀ x ∈ l,x < n) (hl:l.length = n) {c:Nat} (hc:c < n):c ∈ l:=by
 by_cases hm:c ∈ l
 · exact hm
 · have h1:=nodup_le n (l:=c :: l) (List.nodup_cons.2 ⟨hm,hn⟩) (fun x hx => by
    rcases List.mem_cons.1 hx with rfl | hx
    · exact hc
    · exact h x hx)
   rw [List.length_cons] at h1
   omega
theorem RowOK.has {row:List Nat} (h:RowOK row) (c:Nat) (hc:c < 256):c ∈ row:=nodup_full h.nodup h.lt h.len hc
theorem liftL_perm {row:List Nat} {i:Nat} (h:i < row.length):(liftL row i).Perm row:=by
 have e:row = row.take i ++ row[i] :: row.drop (i + 1):=by rw [← List.drop_eq_getElem_cons h,List.take_append_drop]
 unfold liftL
 rw [List.getD_eq_getElem?_getD,List.getElem?_eq_getElem h]
 conv => rhs;rw [e]
 exact List.perm_middle.symm
theorem RowOK.lift {row:List Nat} (h:RowOK row) {i:Nat} (hi:i < 256):RowOK (liftL row i):=by
 have hp:=liftL_perm (row:=row) (i:=i) (by rw [h.len];exact hi)
 exact ⟨by rw [hp.length_eq];exact h.len,hp.nodup_iff.2 h.nodup,fun c hc => h.lt c (hp.mem_iff.1 hc)⟩
theorem idxL_lt {row:List Nat} (h:RowOK row) {c:Nat} (hc:c < 256):idxL row c < 256:=by
 rw [← h.len]
 exact List.findIdx_lt_length_of_exists ⟨c,h.has c hc,by simp⟩
theorem idxL_get {row:List Nat} (h:RowOK row) {c:Nat} (hc:c < 256):row.getD (idxL row c) 0 = c:=by
 have hl:idxL row c < row.length:=by rw [h.len];exact idxL_lt h hc
 have:=List.findIdx_getElem (xs:=row) (p:=fun x => x == c) (w:=hl)
 rw [List.getD_eq_getElem?_getD,List.getElem?_eq_getElem hl]
 exact eq_of_beq this
theorem idxL_of {row:List Nat} (h:RowOK row) {i:Nat} (hi:i < 256):idxL row (row.getD i 0) = i:=by
 have hl:i < row.length:=by rw [h.len];exact hi
 have hc:row.getD i 0 < 256:=by rw [List.getD_eq_getElem?_getD,List.getElem?_eq_getElem hl];exact h.lt _ (List.getElem_mem hl)
 have h2:=idxL_get h hc
 have h3:=idxL_lt h hc
 generalize idxL row (row.getD i 0) = k at h2 h3
 have hl3:k < row.length:=by rw [h.len];exact h3
 rw [List.getD_eq_getElem?_getD,List.getD_eq_getElem?_getD,List.getElem?_eq_getElem hl,List.getElem?_eq_getElem hl3] at h2
 exact (List.getElem_inj h.nodup (h₀:=hl3) (h₁:=hl)).1 h2
def toL (row:List Nat):List Nat → List Nat × List Nat
 | [] => ([],row)
 | c :: s => let r:=toL (liftL row (idxL row c)) s;(idxL row c :: r.1,r.2)
def fromL (row:List Nat):List Nat → List Nat × List Nat
 | [] => ([],row)
 | i :: s => let r:=fromL (liftL row i) s;(row.getD i 0 :: r.1,r.2)
theorem from_to {row:List Nat} (h:RowOK row) {s:List Nat} (hs:∀ c ∈ s,c < 256):fromL row (toL row s).1 = (s,(toL row s).2):=by
 induction s generalizing row with
 | nil => rfl
 | cons c s ih =>
   have hc:=hs c (by simp)
   have:=ih (h.lift (idxL_lt h hc)) (fun x hx => hs x (List.mem_cons_of_mem _ hx))
   show ((row.getD (idxL row c) 0 :: (fromL (liftL row (idxL row c)) (toL (liftL row (idxL row c)) s).1).1),_) = _
   rw [this,idxL_get h hc];rfl
theorem to_from {row:List Nat} (h:RowOK row) {s:List Nat} (hs:∀ i ∈ s,i < 256):toL row (fromL row s).1 = (s,(fromL row s).2):=by
 induction s generalizing row with
 | nil => rfl
 | cons i s ih =>
   have hi:=hs i (by simp)
   have:=ih (h.lift hi) (fun x hx => hs x (List.mem_cons_of_mem _ hx))
   show ((idxL row (row.getD i 0) :: (toL (liftL row (idxL row (row.getD i 0))) (fromL (liftL row i) s).1).1),_) = _
   rw [idxL_of h hi,this];rfl
def freshL:List Nat:=List.range 256
theorem fresh_ok:RowOK freshL:=⟨by simp [freshL],List.nodup_range,fun c hc => List.mem_range.1 hc⟩
theorem Wr.fr {w w':World} {p:Nat} {row:Option Nat} {l:List Bool} {S:Nat → Prop} (h:Wr w p row l) (hf:Fr S w w') (hp:¬ S p) (hr:∀ g,row = some g → ¬ S g):Wr w' p row l:=by
 obtain ⟨v,out,last,n,hb,ho,hrow,r⟩:=h
 exact ⟨v,out,last,n,hb.fr hf hp,own_fr ho hf (fun g hg => hr g (by rw [← hrow];exact hg)),hrow,r⟩
theorem Wr.lt {w:World} {p:Nat} {row:Option Nat} {l:List Bool} (h:Wr w p row l):p < w.heap.size ∧ ∀ g,row = some g → g < w.heap.size:=by
 obtain ⟨v,out,last,n,hb,ho,hrow,r⟩:=h
 exact ⟨hb.lt,fun g hg => own_lt ho g (by rw [hrow];exact hg)⟩
theorem Wr.below {w w':World} {p:Nat} {row:Option Nat} {l:List Bool} (h:Wr w p row l) (hb:Below w.heap.size w w'):Wr w' p row l :=
 h.fr (Fr.below hb (fun _ => False)) (fun h => h) (fun _ _ h => h)
theorem Wr.drewN {w:World} {p:Nat} {row:Option Nat} {l:List Bool} (h:Wr w p row l) (n:Nat):Wr (w.drewN n) p row l:=h
theorem Wr.new (w:World):Wr (w.alloc (.cells #[.slice none 0 0,.int .u64 0,.int .i64 0] 103)) w.heap.size none [] :=
 ⟨.slice none 0 0,[],0,0,Bk.new _ _ _,World.ownsRow_nil _ _ _ _,rfl,by omega,by omega,by simp,rfl⟩
set_option maxHeartbeats 1000000 in
theorem len_any (p:Nat) (row:Option Nat) (l:List Bool) (w:World) (h:Wr w p row l) (hl:l.length ≤ 1000000000000) :
 Calls Tryz.prog 61 #[.pointer (some ⟨p,0,none⟩)] w fun e w' => e = .returned (.int .i64 (l.length:Nat)) ∧ ∃ n,w' = w.drewN n:=by
 obtain ⟨v,out,last,n,hb,ho,hrow,hn,_,_,hbits⟩:=h
 have hlen:=wbits_length out last n
 rw [hbits] at hlen
 obtain ⟨A,c,hv⟩:∃ A c,v = .slice A out.length c:=by
  rcases ho.2 with ⟨hv,hn⟩ | ⟨g,cap,cur,hv,_⟩
  · exact ⟨none,0,by rw [hn];exact hv⟩
  · exact ⟨_,cap,hv⟩
 subst hv
 have c0:=hb.cell 0
 have c2:=hb.cell 2
 simp at c0 c2
 have HL:=hide hlen
 have e1:IntKind.i64.wrap ((out.length:Int) * 8) = (out.length:Int) * 8:=IntWalk.i64_in _ ⟨by omega,by omega⟩
 have e2:IntKind.i64.wrap ((out.length:Int) * 8 + (n:Int)) = (out.length:Int) * 8 + (n:Int):=IntWalk.i64_in _ ⟨by omega,by omega⟩
 clear hlen hbits ho hrow hb
 go_enter Tryz.func61,Tryz.ntmps61
 go_wp2
 go_quiet (fail)
 go_wp2
 go_ret
 exact ⟨ret_int (by rw [HL.out];push_cast;omega),_,rfl⟩
theorem flat_get (out:List Nat):∀ (i:Nat),i < 8 * out.length → (out.flatMap (natBits · 8))[i]? = some (out.getD (i / 8) 0 / 2 ^ (7 - i % 8) % 2 == 1):=by
 induction out with
 | nil => intro i h;simp at h
 | cons x out ih =>
   intro i h
   rw [List.flatMap_cons]
   by_cases h8:i < 8
   · rw [List.getElem?_append_left (by simpa using h8),natBits_get _ _ _ h8]
     rw [show i / 8 = 0 by omega,show i % 8 = i by omega]
     simp
   · rw [List.getElem?_append_right (by simp;omega),natBits_length,ih (i - 8) (by simp at h;omega)]
     rw [show i / 8 = (i - 8) / 8 + 1 by omega,show i % 8 = (i - 8) % 8 by omega]
     simp
theorem natBits_zero (k:Nat):natBits 0 k = List.replicate k false:=by
 induction k with
 | zero => rfl
 | succ k ih => rw [natBits,ih,List.replicate_succ];simp
theorem bs_of {out':List Nat} {l:List Bool} (hout:∀ b ∈ out',b < 256) (k:Nat) (he:out'.flatMap (natBits · 8) = l ++ List.replicate k false) (hl:l.length ≤ 1048576) (hs:out'.length = (l.length + 7) / 8) :
 Bs (strOf out') l.length l:=by
 refine Bs.mk hl (by rw [strOf_size];exact hs) fun i hi => ?_
 rw [strOf_size] at hi
 have h1:=flat_get out' i hi
 unfold bitAt
 rw [strOf_byt _ hout]
 rw [he] at h1
 by_cases hil:i < l.length
 · rw [List.getElem?_append_left hil] at h1
   have e:l.getD i false = (l[i]?).getD false:=List.getD_eq_getElem?_getD
   rw [e,h1];rfl
 · rw [List.getElem?_append_right (by omega)] at h1
   have e:l.getD i false = false:=by rw [List.getD_eq_getElem?_getD,List.getElem?_eq_none (by omega)];rfl
   rw [e]
   have h2:i - l.length < k:=by
    rcases Nat.lt_or_ge (i - l.length) k with h | h
    · exact h
    · rw [List.getElem?_eq_none (by simpa using h)] at h1;cases h1
   rw [List.getElem?_replicate,if_pos h2] at h1
   simpa using h1
theorem last_full {last n:Nat} (hl:last < 2 ^ n) (hn:n ≤ 8):last * 2 ^ (8 - n) < 256:=by
 have:(last + 1) * 2 ^ (8 - n) ≤ 2 ^ n * 2 ^ (8 - n):=Nat.mul_le_mul_right _ hl
 rw [← Nat.pow_add,show n + (8 - n) = 8 by omega,Nat.add_mul,Nat.one_mul] at this
 have:=Nat.two_pow_pos (8 - n)
 omega
theorem bs_part {out:List Nat} {last n:Nat} {l:List Bool} (hout:∀ b ∈ out,b < 256) (hn:n < 8) (h0:0 < n) (hlast:last < 2 ^ n) (hb:wbits out last n = l) (hl:l.length ≤ 1048576) :
 Bs (strOf (out ++ [last * 2 ^ (8 - n)])) l.length l:=by
 have hf:=last_full hlast (by omega)
 have hlen:=wbits_length out last n
 rw [hb] at hlen
 refine bs_of (fun b h => ?_) (8 - n) ?_ hl (by simp;omega)
 · rcases List.mem_append.1 h with h | h
   · exact hout b h
   · simp at h;omega
 · have e:=natBits_join last 0 n (8 - n) (Nat.two_pow_pos _)
   rw [Nat.add_zero,show n + (8 - n) = 8 by omega,natBits_zero] at e
   rw [← hb,List.flatMap_append]
   simp only [List.flatMap_cons,List.flatMap_nil,List.append_nil,e,wbits,List.append_assoc]
theorem bs_whole {out:List Nat} {last:Nat} {l:List Bool} (hout:∀ b ∈ out,b < 256) (hb:wbits out last 0 = l) (hl:l.length ≤ 1048576):Bs (strOf out) l.length l:=by
 have hlen:=wbits_length out last 0
 rw [hb] at hlen
 exact bs_of hout 0 (by rw [← hb];simp [wbits,natBits]) hl (by omega)
set_option maxHeartbeats 2000000 in
theorem wbits_any (p:Nat) (row:Option Nat) (l:List Bool) (w:World) (h:Wr w p row l) (hl:l.length ≤ 1048576) :
 Calls Tryz.prog 63 #[.pointer (some ⟨p,0,none⟩)] w fun e w' => ∃ s,e = .returned (.agg #[.string s,.int .i64 (l.length:Nat)]) ∧ Bs s l.length l ∧ Below w.heap.size w w':=by
 have hW:=hide h
 obtain ⟨v,out,last,n,hb,ho,hrow,hn,hlast,hout,hbits⟩:=h
 have hlen:=wbits_length out last n
 rw [hbits] at hlen
 obtain ⟨A,c,hv⟩:∃ A c,v = .slice A out.length c:=by
  rcases ho.2 with ⟨hv,hn⟩ | ⟨g,cap,cur,hv,_⟩
  · exact ⟨none,0,by rw [hn];exact hv⟩
  · exact ⟨_,cap,hv⟩
 subst hv
 have c0:=hb.cell 0
 have c1:=hb.cell 1
 have c2:=hb.cell 2
 simp at c0 c1 c2
 have HL:=hide hlen
 have HB:=hide hbits
 have HR:=hide hrow
 have HLa:=hide hlast
 have f1:out.length ≤ 1000000:=by omega
 have hpX:p < w.heap.size:=hb.lt
 clear hlen hbits hrow hlast
 obtain ⟨i0,hi,hz0,hz1,hz2⟩:=info_parts info_u8
 have hrd:=own_rd ho
 have hcap:out.length ≤ c:=by
  rcases ho.2 with ⟨hv,hn⟩ | ⟨g,cap,cur,hv,_,_,hc,_⟩
  · omega
  · simp only [Value.slice.injEq] at hv;omega
 go_enter Tryz.func63,Tryz.ntmps63
 go_upto_if 12 with (fail)
 go_cut [3] (fun s3 wx => ∃ A' c' out',s3 = .slice A' out'.length c' ∧ Hid (∃ B,Rd wx B A' (vby out')) ∧ Bs (strOf out') l.length l ∧ Bk wx w.heap.size 27 #[.string ⟨#[]⟩,.int .i64 0] ∧ Below w.heap.size w wx)
 case first =>
  by_cases h0:0 < n
  · have e1:IntKind.i64.wrap (8 - (n:Int)) = 8 - (n:Int):=IntWalk.i64_in _ ⟨by omega,by omega⟩
    have e2:(0:Int) ≤ 8 - (n:Int):=by omega
    have hvl:Hid ((vby out).length = out.length * 1):=by show _ = _;simp
    have hone:∀ x:Int,∀ u ∈ [Value.int .u8 x],u.oneCell' = true:=fun x u hu => by simp at hu;subst hu;rfl
    have hml:Hid (out.length + 1 ≤ maxLen):=by show _ ≤ _;unfold maxLen;omega
    have hml2:Hid ((out.length + 1) * 1 ≤ 140737488355328):=by show _ ≤ _;omega
    have hnone:Hid (A = none → out.length = 0 ∧ out.length = 0):=fun hA => by
     rcases Nat.eq_zero_or_pos out.length with h | h
     · exact ⟨h,h⟩
     · obtain ⟨b,o,hA',_⟩:=hrd 0 (.int .u8 (out[0]:Nat)) (by simp [vby,h])
       rw [hA] at hA';cases hA'
    have holds:∀ X Y:Obj,Hid (∀ b,A = some b → ∀ j u,(vby out)[j]? = some u → ((w.alloc X).alloc Y).drew.cell? (b.add j) = some u):=fun X Y b hA j u hu => by
     obtain ⟨b',o,hA',hb',hc'⟩:=hrd j u hu
     rw [hA] at hA';cases hA'
     rw [Addr.add_lit]
     exact (World.cell?_alloc_lt _ _ _ (by simp;omega)).trans ((World.cell?_alloc_lt _ _ _ hb').trans hc')
    have hnew:∀ (X:Obj) (u:Value) (t:TypeId),Hid (∀ j x,[u][j]? = some x → ((w.alloc X).alloc (.cells #[u] t)).drew.cell? ((⟨w.heap.size + 1,0,none⟩:Addr).add j) = some x):=fun X u t => by
     have:=cell_one_new (w.alloc X) u t
     rw [show (w.alloc X).heap.size = w.heap.size + 1 by simp] at this
     exact this
    go_wp2
    go_region_law ((refine step_append_grows rfl (.tmp 18) (.tmp 30) 38 rfl 5 i0 (.int .u8 0) 1 1 Tryz.underlying38 hi hz0 hz1 hz2 rfl (by decide) A out.length out.length (vby out) rfl hnone.out hvl.out (holds _ _).out ⟨w.heap.size + 1,0,none⟩ 1 1 [_] rfl rfl (hnew _ _ _).out (hone _) (Nat.lt_succ_self _) (hml.out) (hml2.out) ?_;intro v2 w2 hown2 hgr2))
    all_goals
     have hbe2:Below w.heap.size w w2:=(((Below.refl _ _).alloc (Nat.le_refl _) _).alloc (by simp) _).drew.grown hgr2 (by simp;omega) (by simp)
     have hb2:Bk w2 w.heap.size 27 #[.string ⟨#[]⟩,.int .i64 0]:=((((Bk.new w _ _).alloc _)).drew).grown hgr2 (by simp)
     have hlf:=last_full HLa.out (by omega)
     have eU:IntKind.u8.wrap (IntKind.u64.wrap ((last:Int) * 2 ^ (8 - n))) = ((last * 2 ^ (8 - n):Nat):Int):=by
      have e:(last:Int) * 2 ^ (8 - n) = ((last * 2 ^ (8 - n):Nat):Int):=by rw [Int.natCast_mul,Int.natCast_pow];rfl
      rw [e,u64n _ (by omega)];exact IntWalk.u8_in _ ⟨by omega,by omega⟩
     rw [eU] at hown2
     obtain ⟨g2,cp2,rfl,hg2,hg2'⟩:=hown2.form (by omega)
     have hrd2:=own_rd hown2
     clear hgr2
     go_wp2
     go_meet
     exact ⟨some ⟨g2,0,none⟩,cp2,out ++ [last * 2 ^ (8 - n)],by simp,⟨_,by rw [show vby (out ++ [last * 2 ^ (8 - n)]) = vby out ++ [.int .u8 ((last * 2 ^ (8 - n):Nat):Int)] by simp [vby]];exact hrd2⟩,bs_part hout hn h0 HLa.out HB.out hl,hb2,hbe2⟩
  · go_wp2
    go_meet
    exact ⟨A,c,out,rfl,⟨_,hrd.alloc (Nat.le_refl _) _⟩,bs_whole (last:=last) hout (by have:=HB.out;rwa [show n = 0 by omega] at this) hl,Bk.new _ _ _,by go_grown⟩
 case rest =>
  obtain ⟨A',c',out',rfl,hrd',hbs,hbk,hbe⟩:=hcut
  obtain ⟨B',hrd'⟩:=hrd'.out
  have cv:∀ n,(convert 38 9 (.slice A' out'.length c')).run Tryz.prog (wc.drewN n) = .ok (.string (strOf out')) (wc.drewN n):=fun n =>
   run_conv Tryz.prog (wc.drewN n) 38 5 Tryz.underlying38 Tryz.underlying5 9 Tryz.underlying9 (hrd'.drewN n) c'
  have cv0:(convert 38 9 (.slice A' out'.length c')).run Tryz.prog wc.drew = .ok (.string (strOf out')) wc.drew:=cv 1
  have hW1:∀ n,Wr (wc.drewN n) p row l:=fun n => (hW.out.below hbe).drewN n
  have cl:∀ n,Calls Tryz.prog 61 #[.pointer (some ⟨p,0,none⟩)] (wc.drewN n) fun e w' => e = .returned (.int .i64 (l.length:Nat)) ∧ ∃ m,w' = (wc.drewN n).drewN m:=fun n => len_any p row l (wc.drewN n) (hW1 n) (by omega)
  have d0:=hbk.cell 0
  have d1:=hbk.cell 1
  have z0:=hbk.free 0
  have z1:=hbk.free 1
  simp at d0 d1
  clear c0 c1 c2 hW1
  go_wp2
  go_region_with (go_at_call 61;refine (cl 1).mono ?_;rintro e w' ⟨rfl,m,rfl⟩)
  all_goals
   have k:=((hbk.drewN (1 + m)).set_ 0 (.string (strOf out'))).set_ 1 (.int .i64 (l.length:Nat))
   have k0:=k.cell 0
   have k1:=k.cell 1
   simp at k0 k1
   go_wp2
   refine bodyPost_ret (v:=.agg #[.string (strOf out'),.int .i64 (l.length:Nat)]) (by simp [results,Tryz.results63,go_sem,k0,k1]) rfl ?_
   exact ⟨strOf out',rfl,hbs,((below_drewN hbe _).setCell (Nat.le_refl _) _).setCell (Nat.le_refl _) _⟩
theorem get_i (s:ByteArray) (m a wd:Int) (w:World) (h0:0 ≤ a) (h1:0 ≤ wd) (hw:wd ≤ 64) (ha:a + wd ≤ 8 * s.size) (hs:s.size ≤ 1000000000) :
 Calls Tryz.prog 231 #[bstr s m,.int .i64 a,.int .i64 wd] w fun e w' => e = .returned (.int .u64 (getN s a.toNat wd.toNat)) ∧ Below w.heap.size w w':=by
 obtain ⟨a,rfl⟩:=Int.eq_ofNat_of_zero_le h0
 obtain ⟨wd,rfl⟩:=Int.eq_ofNat_of_zero_le h1
 exact get_any s m a wd w (by omega) (by omega) hs
theorem at_i (s:ByteArray) (m a wd:Int) (w:World) (h0:0 ≤ a) (h1:0 ≤ wd) (hw:wd ≤ 64) (ha:a + wd ≤ 8 * s.size) (hs:s.size ≤ 1000000000) :
 Calls Tryz.prog 180 #[bstr s m,.int .i64 a,.int .i64 wd] w fun e w' => e = .returned (.int .u64 (getN s a.toNat wd.toNat)) ∧ Below w.heap.size w w':=by
 obtain ⟨a,rfl⟩:=Int.eq_ofNat_of_zero_le h0
 obtain ⟨wd,rfl⟩:=Int.eq_ofNat_of_zero_le h1
 exact at_any s m a wd w (by omega) (by omega) hs
theorem add_i (p:Nat) (row:Option Nat) (l:List Bool) (v wd:Int) (w:World) (h0:0 ≤ v) (h1:0 ≤ wd) (hv:v < 18446744073709551616) (hw:wd ≤ 64) (h:Wr w p row l) (hl:l.length + wd.toNat ≤ 1000000000000) :
 Calls Tryz.prog 103 #[.pointer (some ⟨p,0,none⟩),.int .u64 v,.int .i64 wd] w fun e w' => e = .returned (.tuple #[]) ∧ ∃ row',Wr w' p row' (l ++ natBits v.toNat wd.toNat) ∧ rowNew w row row' ∧ Fr (wS p row) w w':=by
 obtain ⟨v,rfl⟩:=Int.eq_ofNat_of_zero_le h0
 obtain ⟨wd,rfl⟩:=Int.eq_ofNat_of_zero_le h1
 exact add_any p row l v wd w (by omega) (by omega) h hl
theorem Wr.apart {w:World} {p g:Nat} {row:Option Nat} {l:List Bool} {t:TypeId} {cs:Array Value} (h:Wr w p row l) (hb:Bk w g t cs) (h5:5 ≠ t) (h67:103 ≠ t):¬ wS p row g:=by
 obtain ⟨v,out,last,n,hk,ho,hrow,r⟩:=h
 rintro (rfl | hg)
 · exact Bk.ne_ hk hb h67 rfl
 · exact own_ne ho hb h5 (by rw [hrow,hg])
end Go.Proofs.YtcfnjpokfodmoaaGreatDoor
