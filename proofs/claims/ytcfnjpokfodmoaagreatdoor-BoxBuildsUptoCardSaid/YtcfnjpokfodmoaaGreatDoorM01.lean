/- Lemmas for the row: Base, BitsPlain, Room, TablePlain, BitsA, BitsB, Writer, WriterB, WriterC, TabA, TabB, TabE, TabF. -/
import Derived.Test.YtcfnjpokfodmoaaGreatDoorRows
import Derived.BigQuiet
import Derived.Deep.AppendLies
import Derived.Deep.DeepCutAuto
import Derived.Deep.QuietTactic
import Derived.Deep.RegionHeld3
import Derived.Deep.RegionLaw
import Derived.Deep.RegionLawGrows
import Derived.Handy
import Derived.Lib.Hide
import Derived.Maps.AppendAt
import Derived.PlainAid
import Derived.WalkKit
import Derived.WalkLawsBesides
import Derived.WalkSpells
set_option maxRecDepth 100000
set_option linter.unusedVariables false
namespace Go.Proofs.YtcfnjpokfodmoaaGreatDoor
open Go.RowKit
theorem hide {p:Prop} (h:p):Hid p:=h
def I64 (n:Int):Prop:=-9223372036854775808 ≤ n ∧ n ≤ 9223372036854775807
def U64 (n:Int):Prop:=0 ≤ n ∧ n ≤ 18446744073709551615
theorem ret_bool {a b:Bool} (h:a = b):Ending.returned (.bool a) = .returned (.bool b):=by rw [h]
theorem ret_int {k:IntKind} {a b:Int} (h:a = b):Ending.returned (.int k a) = .returned (.int k b):=by rw [h]
theorem v_int {k:IntKind} {a b:Int} (h:a = b):Value.int k a = .int k b:=by rw [h]
theorem ret_t2 {a b a' b':Value} (h:a = a') (g:b = b'):Ending.returned (.tuple #[a,b]) = .returned (.tuple #[a',b']):=by rw [h,g]
theorem dr3 (w:World) (a b c:Nat):∃ n,((w.drewN a).drewN b).drewN c = w.drewN n:=⟨_,by rw [World.drewN_drewN,World.drewN_drewN]⟩
theorem below_drewN {B:Nat} {a w:World} (h:Below B a w) (n:Nat):Below B a (w.drewN n):=⟨h.os,h.tape,h.output,h.size,h.block⟩
def Rd (w:World) (B:Nat) (A:Option Addr) (xs:List Value):Prop :=
 ∀ i u,xs[i]? = some u → ∃ b o,A = some ⟨b,o,none⟩ ∧ b < B ∧ w.cell? ⟨b,o + i,none⟩ = some u
section
variable {w w':World} {B B':Nat} {A:Option Addr} {xs:List Value}
theorem Rd.nil_:Rd w B A []:=fun i u h => by simp at h
theorem Rd.keep (h:Rd w B A xs) (hk:∀ p:Addr,p.block < B → w'.cell? p = w.cell? p):Rd w' B A xs:=fun i u hu => by
 obtain ⟨b,o,e,hb,hc⟩:=h i u hu
 exact ⟨b,o,e,hb,(hk ⟨b,o + i,none⟩ hb).trans hc⟩
theorem Rd.more (h:Rd w B A xs) (hB:B ≤ B'):Rd w B' A xs:=fun i u hu => by
 obtain ⟨b,o,e,hb,hc⟩:=h i u hu
 exact ⟨b,o,e,Nat.lt_of_lt_of_le hb hB,hc⟩
theorem Rd.below (h:Rd w B A xs) (hb:Below B w w'):Rd w' B A xs:=h.keep fun _ hp => hb.cell hp
theorem Rd.drewN (h:Rd w B A xs) (k:Nat):Rd (w.drewN k) B A xs:=h
theorem Rd.alloc (h:Rd w B A xs) (hB:B ≤ w.heap.size) (o:Obj):Rd (w.alloc o) B A xs:=h.keep fun p hp => World.cell?_alloc_lt w o p (by omega)
theorem Rd.int {k:IntKind} {zs:List Int} (h:Rd w B A (zs.map (.int k))) {i:Nat} (hi:i < zs.length) :
 ∃ b o z,A = some ⟨b,o,none⟩ ∧ b < B ∧ zs[i]? = some z ∧ w.cell? ⟨b,o + i,none⟩ = some (.int k z):=by
 obtain ⟨b,o,e,hb,hc⟩:=h i (.int k zs[i]) (by simp [hi])
 exact ⟨b,o,zs[i],e,hb,by simp [hi],hc⟩
end
structure Fr (S:Nat → Prop) (w w':World):Prop where
 os:w'.os = w.os
 tape:w'.tape = w.tape
 output:w'.output = w.output
 size:w.heap.size ≤ w'.heap.size
 block:∀ k,k < w.heap.size → ¬ S k → w'.heap[k]? = w.heap[k]?
section
variable {w w' a b:World} {S T:Nat → Prop}
theorem Fr.refl (S:Nat → Prop) (w:World):Fr S w w:=⟨rfl,rfl,rfl,Nat.le_refl _,fun _ _ _ => rfl⟩
theorem Fr.trans (h:Fr S a w) (k:Fr T w w') (hT:∀ g,T g → S g ∨ a.heap.size ≤ g):Fr S a w' :=
 ⟨k.os.trans h.os,k.tape.trans h.tape,k.output.trans h.output,Nat.le_trans h.size k.size,fun i hi hS =>
  (k.block i (Nat.lt_of_lt_of_le hi h.size) (fun ht => (hT i ht).elim hS (fun _ => by omega))).trans (h.block i hi hS)⟩
theorem Fr.mono (h:Fr S a w) (hS:∀ g,S g → T g):Fr T a w:=⟨h.os,h.tape,h.output,h.size,fun i hi ht => h.block i hi (fun hs => ht (hS i hs))⟩
theorem Fr.drew (h:Fr S a w):Fr S a w.drew:=⟨h.os,h.tape,h.output,h.size,h.block⟩
theorem Fr.drewN (h:Fr S a w) (n:Nat):Fr S a (w.drewN n):=⟨h.os,h.tape,h.output,h.size,h.block⟩
theorem Fr.alloc (h:Fr S a w) (o:Obj):Fr S a (w.alloc o) :=
 ⟨h.os,h.tape,h.output,Nat.le_trans h.size (by simp),fun i hi hS => (Below.heap_alloc w o i (Nat.lt_of_lt_of_le hi h.size)).trans (h.block i hi hS)⟩
theorem Fr.setCell (h:Fr S a w) {p:Addr} (hp:S p.block ∨ a.heap.size ≤ p.block) (u:Value):Fr S a (w.setCell p u) :=
 ⟨h.os,h.tape,h.output,by simpa [World.setCell] using h.size,fun i hi hS => (Below.heap_setCell w p u i (by
  rintro rfl
  rcases hp with hp | hp
  · exact hS hp
  · omega)).trans (h.block i hi hS)⟩
theorem Fr.below (h:Below w.heap.size w w') (S:Nat → Prop):Fr S w w':=⟨h.os,h.tape,h.output,h.size,fun i hi _ => h.block i hi⟩
theorem Fr.grown {row:Option Nat} (h:w.grownBy w' row) (hS:∀ g,row = some g → S g):Fr S w w' :=
 ⟨h.os,h.tape,h.output,h.size,fun i hi hn => h.block i hi (fun e => hn (hS i e.symm))⟩
theorem Fr.toBelowB {B:Nat} (h:Fr S w w') (hS:∀ g,S g → B ≤ g) (hB:B ≤ w.heap.size):Below B w w' :=
 ⟨h.os,h.tape,h.output,h.size,fun k hk => h.block k (by omega) (fun hs => by have:=hS k hs;omega)⟩
theorem Fr.cell (h:Fr S w w') {p:Addr} {v:Value} (hp:¬ S p.block) (hc:w.cell? p = some v):w'.cell? p = some v :=
 (World.cell?_of_block (h.block p.block (World.block_lt_of_cell? w p hc) hp)).trans hc
theorem Rd.fr {B:Nat} {A:Option Addr} {xs:List Value} (h:Rd w B A xs) (hf:Fr S w w') (hS:∀ g,g < B → ¬ S g):Rd w' B A xs:=fun i u hu => by
 obtain ⟨b,o,e,hb,hc⟩:=h i u hu
 exact ⟨b,o,e,hb,hf.cell (hS b hb) hc⟩
end
def Bk (w:World) (g:Nat) (t:TypeId) (cs:Array Value):Prop:=w.heap[g]? = some (.cells cs t (0,0))
section
variable {w w':World} {g:Nat} {t:TypeId} {cs:Array Value} {S:Nat → Prop}
theorem Bk.lt (h:Bk w g t cs):g < w.heap.size:=(Array.getElem?_eq_some_iff.1 h).1
theorem Bk.cell (h:Bk w g t cs) (i:Nat):w.cell? ⟨g,i,none⟩ = cs[i]?:=cell_of_row w g i cs t (0,0) h
theorem Bk.free (h:Bk w g t cs) (i:Nat):w.frozen? ⟨g,i,none⟩ = false:=by
 unfold Bk at h
 simp [World.frozen?,h]
theorem Bk.new (w:World) (t:TypeId) (cs:Array Value):Bk (w.alloc (.cells cs t)) w.heap.size t cs:=heap_alloc_new w _
theorem Bk.drew (h:Bk w g t cs):Bk w.drew g t cs:=h
theorem Bk.drewN (h:Bk w g t cs) (n:Nat):Bk (w.drewN n) g t cs:=h
theorem Bk.alloc (h:Bk w g t cs) (o:Obj):Bk (w.alloc o) g t cs:=(Below.heap_alloc w o g h.lt).trans h
theorem Bk.set_ (h:Bk w g t cs) (i:Nat) (u:Value):Bk (w.setCell ⟨g,i,none⟩ u) g t (cs.setIfInBounds i u):=by
 unfold Bk at h ⊢
 simp [World.setCell,Array.getElem?_modify,h]
theorem Bk.far (h:Bk w g t cs) {p:Addr} (hp:g ≠ p.block) (u:Value):Bk (w.setCell p u) g t cs:=(Below.heap_setCell w p u g hp).trans h
theorem Bk.below {B:Nat} (h:Bk w g t cs) (hb:Below B w w') (hg:g < B):Bk w' g t cs:=(hb.block g hg).trans h
theorem Bk.fr (h:Bk w g t cs) (hf:Fr S w w') (hg:¬ S g):Bk w' g t cs:=(hf.block g h.lt hg).trans h
theorem Bk.grown {row:Option Nat} (h:Bk w g t cs) (hb:w.grownBy w' row) (hg:some g ≠ row):Bk w' g t cs:=(hb.block g h.lt hg).trans h
theorem Bk.ne_ {g':Nat} {t':TypeId} {cs':Array Value} (h:Bk w g t cs) (h':Bk w g' t' cs') (hne:t ≠ t'):g ≠ g':=by
 rintro rfl
 unfold Bk at h h'
 rw [h] at h'
 simp only [Option.some.injEq,Obj.cells.injEq] at h'
 exact hne h'.2.1
theorem own_ne {base:Nat} {e:TypeId} {size n:Nat} {v:Value} {xs:List Value} (h:w.ownsRow base e size v n xs) (hg:Bk w g t cs) (hne:e ≠ t):some g ≠ v.ownBlock:=by
 rcases h.2 with ⟨rfl,_⟩ | ⟨g',cap,cur,rfl,_,hh,_⟩
 · simp [Value.ownBlock]
 · intro he
   have:g = g':=by simpa [Value.ownBlock] using he
   exact Bk.ne_ (t:=e) hh hg hne this.symm
theorem own_base {base base' e size n:Nat} {v:Value} {xs:List Value} (h:w.ownsRow base e size v n xs) (hB:∀ g,v.ownBlock = some g → base' ≤ g):w.ownsRow base' e size v n xs:=by
 refine ⟨h.1,h.2.imp id ?_⟩
 rintro ⟨g,cap,cur,rfl,_,c⟩
 exact ⟨g,cap,cur,rfl,hB g rfl,c⟩
theorem own_fr {base e size n:Nat} {v:Value} {xs:List Value} (h:w.ownsRow base e size v n xs) (hf:Fr S w w') (hS:∀ g,v.ownBlock = some g → ¬ S g):w'.ownsRow base e size v n xs:=by
 refine ⟨h.1,h.2.imp id ?_⟩
 rintro ⟨g,cap,cur,rfl,hb,hg,r⟩
 exact ⟨g,cap,cur,rfl,hb,(hf.block g (Array.getElem?_eq_some_iff.1 hg).1 (hS g rfl)).trans hg,r⟩
theorem own_set {base e size n:Nat} {v:Value} {xs:List Value} (h:w.ownsRow base e size v n xs) {p:Addr} (hp:v.ownBlock ≠ some p.block) (u:Value):(w.setCell p u).ownsRow base e size v n xs:=by
 refine ⟨h.1,h.2.imp id ?_⟩
 rintro ⟨g,cap,cur,rfl,hb,hg,r⟩
 exact ⟨g,cap,cur,rfl,hb,(Below.heap_setCell w p u g (fun e => hp (by subst e;rfl))).trans hg,r⟩
theorem own_lt {base e size n:Nat} {v:Value} {xs:List Value} (h:w.ownsRow base e size v n xs):∀ g,v.ownBlock = some g → g < w.heap.size:=fun g hg => (h.lt g hg).2
theorem own_rd {base e n c:Nat} {A:Option Addr} {xs:List Value} (h:w.ownsRow base e 1 (.slice A n c) n xs):Rd w w.heap.size A xs:=fun i u hu => by
 rcases h.2 with ⟨hv,hn⟩ | ⟨g,cap,cur,hv,hb,hg,hc⟩
 · have:=h.1
   rw [hn] at this
   have hx:xs = []:=List.eq_nil_of_length_eq_zero (by simpa using this)
   subst hx
   simp at hu
 · simp only [Value.slice.injEq] at hv
   obtain ⟨rfl,_,rfl⟩:=hv
   refine ⟨g,0,rfl,(Array.getElem?_eq_some_iff.1 hg).1, ?_⟩
   have:=h.cells (g:=g) rfl i u hu
   rw [Addr.add_lit] at this
   exact this
end
theorem bcell {W w1:World} (hb:Below W.heap.size W w1):(∀ b o,b < W.heap.size → w1.cell? ⟨b,o,none⟩ = W.cell? ⟨b,o,none⟩) ∧ (∀ b o,b < W.heap.size → w1.frozen? ⟨b,o,none⟩ = W.frozen? ⟨b,o,none⟩) :=
 ⟨fun b o h => hb.cell (p:=⟨b,o,none⟩) h,fun b o h => hb.frozen (p:=⟨b,o,none⟩) h⟩
theorem Bk.keep {w w':World} {g:Nat} {t:TypeId} {cs:Array Value} (h:Bk w g t cs) (hb:Below w.heap.size w w'):Bk w' g t cs:=h.below hb h.lt
theorem Bk.new1 (w:World) (X:Obj) (t:TypeId) (cs:Array Value):Bk ((w.alloc X).alloc (.cells cs t)) (w.heap.size + 1) t cs:=by
 have:=Bk.new (w.alloc X) t cs
 rwa [show (w.alloc X).heap.size = w.heap.size + 1 by simp] at this
theorem Bk.new2 (w:World) (X Y:Obj) (t:TypeId) (cs:Array Value):Bk (((w.alloc X).alloc Y).alloc (.cells cs t)) (w.heap.size + 1 + 1) t cs:=by
 have:=Bk.new1 (w.alloc X) Y t cs
 rwa [show (w.alloc X).heap.size = w.heap.size + 1 by simp] at this
theorem two_cells {w:World} {g:Nat} {t:TypeId} {a b:Value} (h:Bk w g t #[a,b]):w.cell? ⟨g,0,none⟩ = some a ∧ w.cell? ⟨g,1,none⟩ = some b:=⟨h.cell 0,h.cell 1⟩
def byt (s:ByteArray) (k:Nat):Nat:=if h:k < s.size then (s[k]'h).toNat else 0
theorem byt_of (s:ByteArray) {k:Nat} (h:k < s.size):(s[k]'h).toNat = byt s k:=by unfold byt;rw [dif_pos h]
theorem byt_lt (s:ByteArray) (k:Nat):byt s k < 256:=by
 unfold byt;split
 · exact UInt8.toNat_lt _
 · omega
theorem byt_ext {s t:ByteArray} (hs:s.size = t.size) (h:∀ k,k < s.size → byt s k = byt t k):s = t:=by
 apply ByteArray.ext
 apply Array.ext
 · exact hs
 · intro i h1 h2
   have:=h i h1
   rw [← byt_of s h1,← byt_of t h2] at this
   exact UInt8.toNat_inj.1 this
def bitAt (s:ByteArray) (i:Nat):Bool:=byt s (i / 8) / 2 ^ (7 - i % 8) % 2 == 1
def bitsL (s:ByteArray) (n:Nat):List Bool:=(List.range n).map (bitAt s)
@[simp] theorem bitsL_length (s:ByteArray) (n:Nat):(bitsL s n).length = n:=by simp [bitsL]
theorem bitsL_get (s:ByteArray) {n i:Nat} (h:i < n):(bitsL s n)[i]? = some (bitAt s i):=by simp [bitsL,h]
def natBits (v:Nat):Nat → List Bool
 | 0 => []
 | w + 1 => (v / 2 ^ w % 2 == 1) :: natBits v w
@[simp] theorem natBits_length (v w:Nat):(natBits v w).length = w:=by induction w <;> simp [natBits, *]
theorem natBits_append (v a b:Nat):natBits v (a + b) = natBits (v / 2 ^ b) a ++ natBits v b:=by
 induction a with
 | zero => simp [natBits]
 | succ a ih =>
   rw [show a + 1 + b = (a + b) + 1 by omega,natBits,natBits,ih,List.cons_append,Nat.div_div_eq_div_mul,← Nat.pow_add,Nat.add_comm b a]
theorem natBits_mod (v w m:Nat) (h:w ≤ m):natBits (v % 2 ^ m) w = natBits v w:=by
 induction w with
 | zero => rfl
 | succ w ih =>
   have e:(v % 2 ^ m / 2 ^ w % 2 == 1) = (v / 2 ^ w % 2 == 1):=by
    have h1:=Nat.testBit_mod_two_pow v m w
    rw [Nat.testBit_eq_decide_div_mod_eq,Nat.testBit_eq_decide_div_mod_eq,decide_eq_true (show w < m by omega),Bool.true_and] at h1
    rw [Bool.eq_iff_iff];simpa using h1
   rw [natBits,natBits,e,ih (by omega)]
theorem natBits_join (x y a b:Nat) (hy:y < 2 ^ b):natBits (x * 2 ^ b + y) (a + b) = natBits x a ++ natBits y b:=by
 rw [natBits_append]
 congr 1
 · rw [Nat.mul_comm,Nat.mul_add_div (Nat.two_pow_pos b),Nat.div_eq_of_lt hy,Nat.add_zero]
 · rw [← natBits_mod (x * 2 ^ b + y) b b (Nat.le_refl b),Nat.mul_comm,Nat.mul_add_mod,Nat.mod_eq_of_lt hy]
theorem natBits_get (v w i:Nat) (h:i < w):(natBits v w)[i]? = some (v / 2 ^ (w - 1 - i) % 2 == 1):=by
 induction w generalizing i with
 | zero => omega
 | succ w ih =>
   cases i with
   | zero => simp [natBits]
   | succ i => simp only [natBits,List.getElem?_cons_succ];rw [ih i (by omega)];congr 5;omega
theorem natBits_inj {v x w:Nat} (hv:v < 2 ^ w) (hx:x < 2 ^ w) (h:natBits v w = natBits x w):v = x:=by
 induction w generalizing v x with
 | zero => simp at hv hx;omega
 | succ w ih =>
   simp only [natBits,List.cons.injEq] at h
   have h1:=ih (v:=v % 2 ^ w) (x:=x % 2 ^ w) (Nat.mod_lt _ (Nat.two_pow_pos w)) (Nat.mod_lt _ (Nat.two_pow_pos w)) (by rw [natBits_mod _ _ _ (Nat.le_refl w),natBits_mod _ _ _ (Nat.le_refl w)];exact h.2)
   have e1:v / 2 ^ w < 2:=by rw [Nat.div_lt_iff_lt_mul (Nat.two_pow_pos w)];rw [Nat.pow_succ] at hv;omega
   have e2:x / 2 ^ w < 2:=by rw [Nat.div_lt_iff_lt_mul (Nat.two_pow_pos w)];rw [Nat.pow_succ] at hx;omega
   have dv:=Nat.div_add_mod v (2 ^ w)
   have dx:=Nat.div_add_mod x (2 ^ w)
   generalize v / 2 ^ w = qv at *
   generalize x / 2 ^ w = qx at *
   have h2:qv = qx:=by
    have:=h.1
    rw [Nat.mod_eq_of_lt e1,Nat.mod_eq_of_lt e2] at this
    rcases Nat.lt_or_ge qv 1 with a | a <;> rcases Nat.lt_or_ge qx 1 with b | b
    · omega
    · rw [show qv = 0 by omega,show qx = 1 by omega] at this;simp at this
    · rw [show qv = 1 by omega,show qx = 0 by omega] at this;simp at this
    · omega
   rw [← dv,← dx,h1,h2]
theorem bits_byte (s:ByteArray) (k:Nat):natBits (byt s k) 8 = (List.range 8).map fun j => bitAt s (8 * k + j):=by
 apply List.ext_getElem?
 intro i
 by_cases h:i < 8
 · rw [natBits_get _ _ _ h]
   simp only [List.getElem?_map,List.getElem?_range h,Option.map_some,bitAt]
   rw [show (8 * k + i) / 8 = k by omega,show (8 * k + i) % 8 = i by omega]
 · rw [List.getElem?_eq_none (by simp;omega),List.getElem?_eq_none (by simp;omega)]
def rightB (s:ByteArray) (n:Int):Bool :=
 decide (0 ≤ n ∧ n ≤ 1048576 ∧ (s.size:Int) = (n + 7) / 8) && (decide (n % 8 = 0) || decide (byt s (s.size - 1) * 2 ^ (n % 8).toNat % 256 = 0))
def chkB (s:ByteArray) (n:Int):Int:=if rightB s n then 0 else 2
theorem rightB_n {s:ByteArray} {n:Int} (h:rightB s n = true):0 ≤ n ∧ n ≤ 1048576 ∧ (s.size:Int) = (n + 7) / 8:=by
 simp only [rightB,Bool.and_eq_true,decide_eq_true_eq] at h;exact h.1
theorem low_zero {x r:Nat} (_hx:x < 256) (hr:0 < r) (hr8:r < 8):x * 2 ^ r % 256 = 0 ↔ ∀ j,r ≤ j → j < 8 → x / 2 ^ (7 - j) % 2 = 0:=by
 have:r = 1 ∨ r = 2 ∨ r = 3 ∨ r = 4 ∨ r = 5 ∨ r = 6 ∨ r = 7:=by omega
 constructor
 · intro h j h1 h2
   have hj:j = 1 ∨ j = 2 ∨ j = 3 ∨ j = 4 ∨ j = 5 ∨ j = 6 ∨ j = 7:=by omega
   rcases this with rfl | rfl | rfl | rfl | rfl | rfl | rfl <;> rcases hj with rfl | rfl | rfl | rfl | rfl | rfl | rfl <;> simp at * <;> omega
 · intro h
   have h1:=h 1;have h2:=h 2;have h3:=h 3;have h4:=h 4;have h5:=h 5;have h6:=h 6;have h7:=h 7
   rcases this with rfl | rfl | rfl | rfl | rfl | rfl | rfl <;> simp at * <;> omega
theorem rightB_iff {s:ByteArray} {n:Nat} (hn:n ≤ 1048576) (hs:s.size = (n + 7) / 8):rightB s n = true ↔ ∀ i,n ≤ i → i < 8 * s.size → bitAt s i = false:=by
 have h0:(0 ≤ (n:Int) ∧ (n:Int) ≤ 1048576 ∧ (s.size:Int) = ((n:Int) + 7) / 8):=⟨by omega,by omega,by omega⟩
 unfold rightB
 rw [decide_eq_true h0,Bool.true_and,Bool.or_eq_true,decide_eq_true_eq,decide_eq_true_eq]
 by_cases hz:n % 8 = 0
 · constructor
   · intro _ i h1 h2;omega
   · intro _;left;omega
 · have e8:((n:Int) % 8).toNat = n % 8:=by omega
   rw [e8,low_zero (byt_lt _ _) (by omega) (by omega)]
   constructor
   · rintro (h | h) i h1 h2
     · omega
     · have:=h (i % 8) (by omega) (by omega)
       unfold bitAt
       rw [show i / 8 = s.size - 1 by omega,this];rfl
   · intro h;right
     intro j h1 h2
     have:=h (8 * (s.size - 1) + j) (by omega) (by omega)
     unfold bitAt at this
     rw [show (8 * (s.size - 1) + j) / 8 = s.size - 1 by omega,show (8 * (s.size - 1) + j) % 8 = j by omega] at this
     simp at this
     omega
def Bs (s:ByteArray) (n:Int) (l:List Bool):Prop:=rightB s n = true ∧ n = l.length ∧ bitsL s l.length = l
theorem Bs.of_right {s:ByteArray} {n:Nat} (h:rightB s n = true):Bs s n (bitsL s n):=⟨h,by simp,by simp⟩
theorem Bs.len {s:ByteArray} {n:Int} {l:List Bool} (h:Bs s n l):l.length ≤ 1048576 ∧ s.size = (l.length + 7) / 8:=by
 have:=rightB_n h.1
 have:=h.2.1
 omega
theorem Bs.one {s t:ByteArray} {n m:Int} {l:List Bool} (h:Bs s n l) (k:Bs t m l):s = t ∧ n = m:=by
 refine ⟨?_,by rw [h.2.1,k.2.1]⟩
 have h1:=h.len;have k1:=k.len
 have hr:=(rightB_iff h1.1 h1.2).1 (by rw [← h.2.1];exact h.1)
 have kr:=(rightB_iff k1.1 k1.2).1 (by rw [← k.2.1];exact k.1)
 refine byt_ext (by omega) fun j hj => ?_
 refine natBits_inj (w:=8) (byt_lt _ _) (byt_lt _ _) ?_
 rw [bits_byte,bits_byte]
 apply List.map_congr_left
 intro i hi
 have hi:i < 8:=by simpa using hi
 by_cases hl:8 * j + i < l.length
 · have e1:=bitsL_get s hl
   have e2:=bitsL_get t hl
   rw [h.2.2] at e1;rw [k.2.2] at e2
   rw [e1] at e2;simpa using e2
 · rw [hr _ (by omega) (by omega),kr _ (by omega) (by omega)]
theorem Bs.mk {s:ByteArray} {l:List Bool} (hl:l.length ≤ 1048576) (hs:s.size = (l.length + 7) / 8) (h:∀ i,i < 8 * s.size → bitAt s i = l.getD i false):Bs s l.length l:=by
 refine ⟨(rightB_iff hl hs).2 fun i h1 h2 => ?_,rfl, ?_⟩
 · rw [h i h2];simp [h1]
 · apply List.ext_getElem?
   intro i
   by_cases hi:i < l.length
   · rw [bitsL_get s hi,h i (by omega)];simp [hi]
   · rw [List.getElem?_eq_none (by simp;omega),List.getElem?_eq_none (by omega)]
def getN (s:ByteArray) (p:Nat):Nat → Nat
 | 0 => 0
 | k + 1 => 2 * getN s p k + (bitAt s (p + k)).toNat
theorem getN_lt (s:ByteArray) (p k:Nat):getN s p k < 2 ^ k:=by
 induction k with
 | zero => simp [getN]
 | succ k ih => rw [getN,Nat.pow_succ];have:=Bool.toNat_lt (bitAt s (p + k));omega
theorem getN_add (s:ByteArray) (p k v:Nat):getN s p (k + v) = getN s p k * 2 ^ v + getN s (p + k) v:=by
 induction v with
 | zero => simp [getN]
 | succ v ih =>
   rw [← Nat.add_assoc,getN,ih,getN,Nat.pow_succ,Nat.add_assoc p k v]
   generalize (bitAt s (p + (k + v))).toNat = b
   generalize getN s (p + k) v = g
   generalize getN s p k = h
   rw [Nat.mul_add,← Nat.mul_assoc,Nat.mul_comm 2 h,Nat.mul_assoc h 2,Nat.mul_comm 2 (2 ^ v)]
   omega
theorem div_mod_step (x d v:Nat):2 * (x / 2 ^ (d + 1) % 2 ^ v) + x / 2 ^ d % 2 = x / 2 ^ d % 2 ^ (v + 1):=by
 rw [Nat.pow_succ 2 d,← Nat.div_div_eq_div_mul,Nat.pow_succ,Nat.mul_comm (2 ^ v) 2,Nat.mod_mul]
 omega
theorem getN_byte (s:ByteArray) (p v:Nat) (h:p % 8 + v ≤ 8):getN s p v = byt s (p / 8) / 2 ^ (8 - p % 8 - v) % 2 ^ v:=by
 induction v with
 | zero => simp [getN,Nat.mod_one]
 | succ v ih =>
   rw [getN,ih (by omega),← div_mod_step,show 8 - p % 8 - v = 8 - p % 8 - (v + 1) + 1 by omega]
   congr 1
   unfold bitAt
   rw [show (p + v) / 8 = p / 8 by omega,show 7 - (p + v) % 8 = 8 - p % 8 - (v + 1) by omega]
   generalize byt s (p / 8) / 2 ^ (8 - p % 8 - (v + 1)) = y
   rcases Nat.mod_two_eq_zero_or_one y with e | e <;> rw [e] <;> rfl
theorem natBits_getN (s:ByteArray) (p k:Nat):natBits (getN s p k) k = (List.range k).map fun j => bitAt s (p + j):=by
 induction k with
 | zero => rfl
 | succ k ih =>
   rw [natBits_append (getN s p (k + 1)) k 1,List.range_succ,List.map_append,getN]
   have hb:=Bool.toNat_lt (bitAt s (p + k))
   rw [show (2 * getN s p k + (bitAt s (p + k)).toNat) / 2 ^ 1 = getN s p k by omega,ih]
   congr 1
   simp only [natBits,List.map_cons,List.map_nil]
   cases bitAt s (p + k) <;> simp
theorem bits_seg (s:ByteArray) {n p k:Nat} (h:p + k ≤ n):((bitsL s n).drop p).take k = (List.range k).map fun j => bitAt s (p + j):=by
 apply List.ext_getElem?
 intro i
 by_cases hi:i < k
 · rw [List.getElem?_take_of_lt hi,List.getElem?_drop,bitsL_get s (by omega)];simp [hi]
 · rw [List.getElem?_eq_none (by simp;omega),List.getElem?_eq_none (by simp;omega)]
theorem u64n (n:Nat) (h:n ≤ 18446744073709551615):IntKind.u64.wrap (n:Int) = (n:Int):=IntWalk.u64_in _ ⟨by omega,by omega⟩
theorem mask_nat (x v:Nat) (hx:x < 18446744073709551616) (hv:v ≤ 62):bits .and .u64 (x:Int) (IntKind.u64.wrap (IntKind.u64.wrap (2 ^ v) - 1)) = ((x % 2 ^ v:Nat):Int):=by
 have h2:2 ^ v ≤ 2 ^ 62:=Nat.pow_le_pow_right (by omega) hv
 have hp:0 < 2 ^ v:=Nat.two_pow_pos v
 have e:(2:Int) ^ v = ((2 ^ v:Nat):Int):=by rw [Int.natCast_pow];rfl
 rw [e,u64n (2 ^ v) (by omega),show ((2 ^ v:Nat):Int) - 1 = ((2 ^ v - 1:Nat):Int) by omega,u64n (2 ^ v - 1) (by omega),
  u64_and_nat _ _ hx (by omega),Nat.and_two_pow_sub_one_eq_mod]
theorem shl_or (n q v:Nat) (hq:q < 2 ^ v) (hn:n * 2 ^ v + q < 18446744073709551616):bits .or .u64 (IntKind.u64.wrap ((n:Int) * 2 ^ v)) (q:Int) = ((n * 2 ^ v + q:Nat):Int):=by
 have e:(n:Int) * (2:Int) ^ v = ((n * 2 ^ v:Nat):Int):=by rw [Int.natCast_mul,Int.natCast_pow];rfl
 rw [e,IntWalk.u64_in _ ⟨by omega,by omega⟩,u64_or_nat _ _ (by omega) (by omega),nat_join v _ _ (Nat.mul_mod_left _ _) hq]
theorem get_step (n b sh v:Nat) (hb:b < 256) (hv:v ≤ 8) (hn:n * 2 ^ v + 2 ^ v ≤ 18446744073709551616) :
 bits .or .u64 (IntKind.u64.wrap ((n:Int) * 2 ^ v)) (bits .and .u64 (IntKind.u64.wrap (b:Int) / 2 ^ sh) (IntKind.u64.wrap (IntKind.u64.wrap (2 ^ v) - 1))) = ((n * 2 ^ v + b / 2 ^ sh % 2 ^ v:Nat):Int):=by
 have e:IntKind.u64.wrap (b:Int) / 2 ^ sh = ((b / 2 ^ sh:Nat):Int):=by
  rw [IntWalk.u64_in _ ⟨by omega,by omega⟩,Int.natCast_ediv,Int.natCast_pow];rfl
 have hm:=Nat.mod_lt (b / 2 ^ sh) (Nat.two_pow_pos v)
 have hd:=Nat.div_le_self b (2 ^ sh)
 rw [e,mask_nat _ _ (by omega) (by omega),shl_or _ _ _ hm (by omega)]
def strOf (l:List Nat):ByteArray:=⟨(l.map UInt8.ofNat).toArray⟩
def vby (l:List Nat):List Value:=l.map fun b => .int .u8 (b:Nat)
@[simp] theorem vby_length (l:List Nat):(vby l).length = l.length:=by simp [vby]
theorem strOf_size (l:List Nat):(strOf l).size = l.length:=by simp [strOf,ByteArray.size]
theorem strOf_byt (l:List Nat) (h:∀ b ∈ l,b < 256) (k:Nat):byt (strOf l) k = l.getD k 0:=by
 by_cases hk:k < l.length
 · rw [← byt_of _ (by rw [strOf_size];exact hk)]
   have:(strOf l)[k]'(by rw [strOf_size];exact hk) = UInt8.ofNat l[k]:=by
    show (strOf l).data[k]'_ = _
    simp [strOf]
   rw [this]
   simp [hk]
   exact h _ (List.getElem_mem hk)
 · unfold byt;rw [dif_neg (by rw [strOf_size];exact hk)];simp [List.getD,List.getElem?_eq_none (Nat.le_of_not_lt hk)]
theorem run_conv (P:Program) (w:World) (src e:TypeId) (hs:P.underlying src = some (.slice e)) (he:P.underlying e = some (.int .u8)) (dst:TypeId) (hd:P.underlying dst = some .string)
 {B:Nat} {A:Option Addr} {l:List Nat} (h:Rd w B A (vby l)) (c:Nat):(convert src dst (.slice A l.length c)).run P w = .ok (.string (strOf l)) w:=by
 cases A with
 | none =>
   have hl:l = []:=by
    cases l with
    | nil => rfl
    | cons x l => obtain ⟨b,o,hA,_⟩:=h 0 (.int .u8 (x:Nat)) (by simp [vby]);cases hA
   subst hl
   exact run_convert_bytes_nil w src e hs he _ c dst hd
 | some ad =>
   have hload:(loadCells ad l.length).run P w = .ok ((l.map fun b => ((b:Nat):Int)).map (Value.int .u8)).toArray w:=by
    have:=run_loadCells_list (P:=P) w ad (vby l) (fun j v hj => by
     obtain ⟨b,o,hA,_,hc⟩:=h j v hj
     cases hA
     rw [Addr.add_lit];exact hc)
    rw [vby_length] at this
    rw [List.map_map];simpa [vby,Function.comp_def] using this
   rw [run_convert_bytes_string w src dst e _ _ c hs he hd,run_bytesToString w ad _ c _ hload,foldl_push_bytes]
   simp [strOf,ByteArray.empty,ByteArray.emptyWithCapacity]
   show [] ++ _ = _
   simp [Function.comp_def]
def badL (lim x:Int):Bool:=decide (x < 0) || decide (lim < x)
def usedL (lim:Nat):List Int → Nat
 | [] => 0
 | x :: l => (if 0 < x then 2 ^ (lim - x.toNat) else 0) + usedL lim l
def roomW (ls:List Int) (lim:Int):Int:=if lim < 1 ∨ 15 < lim ∨ 512 < ls.length then 1 else if ls.any (badL lim) then 7 else 0
def roomN (ls:List Int) (lim:Int):Int:=if roomW ls lim = 0 then ((2 ^ lim.toNat:Nat):Int) - (usedL lim.toNat ls:Nat) else 0
theorem usedL_append (lim:Nat) (a b:List Int):usedL lim (a ++ b) = usedL lim a + usedL lim b:=by
 induction a with
 | nil => simp [usedL]
 | cons x a ih => simp [usedL,ih];omega
theorem usedL_le (lim:Nat) (a:List Int):usedL lim a ≤ a.length * 2 ^ lim:=by
 induction a with
 | nil => simp [usedL]
 | cons x a ih =>
   have:(if 0 < x then 2 ^ (lim - x.toNat) else 0) ≤ 2 ^ lim:=by
    split
    · exact Nat.pow_le_pow_right (by omega) (by omega)
    · exact Nat.zero_le _
   rw [usedL,List.length_cons,Nat.add_mul];omega
theorem usedL_step {lim:Nat} {l:List Int} {k:Nat} {x:Int} (h:l[k]? = some x):usedL lim (l.take (k + 1)) = usedL lim (l.take k) + (if 0 < x then 2 ^ (lim - x.toNat) else 0):=by
 rw [List.take_add_one,h,usedL_append];simp [usedL]
theorem any_step {α:Type} {f:α → Bool} {l:List α} {k:Nat} {x:α} (h:l[k]? = some x):(l.take (k + 1)).any f = ((l.take k).any f || f x):=by
 rw [List.take_add_one,h,List.any_append];simp
def RoomP (ls:List Int) (lim:Int) (w:World) (e:Ending) (w':World):Prop:=e = .returned (.tuple #[.int .i64 (roomN ls lim),.int .i64 (roomW ls lim)]) ∧ w' = w
theorem RoomP.bad {ls:List Int} {lim:Int} {w:World} {k:Int} (h:roomW ls lim = k) (hk:k ≠ 0):RoomP ls lim w (.returned (.tuple #[.int .i64 0,.int .i64 k])) w:=by
 refine ⟨?_,rfl⟩
 rw [roomN,h,if_neg hk]
theorem any_of {α:Type} {f:α → Bool} {l:List α} {k:Nat} {x:α} (h:l[k]? = some x) (hf:f x = true):l.any f = true :=
 List.any_eq_true.2 ⟨x,List.mem_of_getElem? h,hf⟩
set_option maxHeartbeats 1000000 in
theorem room_any (A:Option Addr) (ls:List Int) (c:Nat) (lim:Int) (w:World) (h:Rd w w.heap.size A (ls.map (.int .i64))) (hlen:ls.length ≤ 9223372036854775807) (hlim:I64 lim) :
 Calls Tryz.prog 229 #[.slice A ls.length c,.int .i64 lim] w (RoomP ls lim w):=by
 have H:=hide h
 obtain ⟨l1,l2⟩:=hlim
 clear h
 by_cases g:lim < 1 ∨ 15 < lim ∨ 512 < ls.length
 · have hW:roomW ls lim = 1:=by rw [roomW,if_pos g]
   have HW:=hide hW
   clear hW
   go_enter Tryz.func229,Tryz.ntmps229
   go_wp2
   all_goals
    first
     | (exfalso;omega)
     | (go_ret2;exact RoomP.bad HW.out (by decide))
 · obtain ⟨L,rfl⟩:=Int.eq_ofNat_of_zero_le (show 0 ≤ lim by omega)
   have g1:1 ≤ L:=by omega
   have g2:L ≤ 15:=by omega
   have g3:ls.length ≤ 512:=by omega
   have HG:=hide g
   clear g
   have hpow:2 ^ L ≤ 2 ^ 15:=Nat.pow_le_pow_right (by omega) g2
   obtain ⟨P,hP⟩:∃ P:Nat,2 ^ L = P:=⟨_,rfl⟩
   have hP':(2:Int) ^ L = P:=by rw [← hP,Int.natCast_pow];rfl
   rw [hP] at hpow
   have HP:=hide hP
   clear hP
   go_enter Tryz.func229,Tryz.ntmps229
   go_wp2
   go_loop [6,21] (fun n i => ∃ k U:Nat,k ≤ ls.length ∧ i = .int .i64 k ∧ n = .int .i64 ((P:Int) - (U:Int)) ∧ Hid (U = usedL L (ls.take k)) ∧ Hid ((ls.take k).any (badL L) = false)) (fun _ i => ls.length - (intOf i).toNat)
   case atStart => exact ⟨0,0,by omega,rfl,by simp,by simp [usedL,Hid],by simp [Hid]⟩
   case round =>
    obtain ⟨k,U,hk,rfl,rfl,hU,hbad⟩:=hrel
    have hUb:U ≤ 16777216:=by
     have h1:=usedL_le L (ls.take k)
     rw [← hU.out,HP.out] at h1
     have h2:(ls.take k).length ≤ 512:=by simp;omega
     have:=Nat.mul_le_mul h2 hpow
     omega
    by_cases hlt:k < ls.length
    · obtain ⟨b,o,x,rfl,hb,hx,hc⟩:=H.out.int hlt
      have HX:=hide hx
      clear hx
      by_cases hx1:x < 0 ∨ (L:Int) < x
      · have hW:roomW ls L = 7:=by
         rw [roomW,if_neg HG.out,if_pos (any_of HX.out (by simpa [badL] using hx1))]
        have HW:=hide hW
        clear hW
        go_wp2
        all_goals
         first
          | (exfalso;omega)
          | (go_ret2;exact RoomP.bad HW.out (by decide))
      · obtain ⟨x,rfl⟩:=Int.eq_ofNat_of_zero_le (show 0 ≤ x by omega)
        have hxL:x ≤ L:=by omega
        have hb2:badL L x = false:=by simp [badL];omega
        have HB:=hide hb2
        obtain ⟨Q,hQ⟩:∃ Q:Nat,2 ^ (L - x) = Q:=⟨_,rfl⟩
        have hQ':(2:Int) ^ (L - x) = Q:=by rw [← hQ,Int.natCast_pow];rfl
        have hQb:Q ≤ 32768:=by rw [← hQ];exact Nat.le_trans (Nat.pow_le_pow_right (by omega) (show L - x ≤ 15 by omega)) (by decide)
        have HQ:=hide hQ
        clear hx1 hb2 hQ
        by_cases hx0:0 < x
        · go_wp2
          all_goals
           first
            | (exfalso;omega)
            | (go_round
               case rel => exact ⟨k + 1,U + Q,by omega,by go_num,by go_num,hide (by rw [usedL_step HX.out,← hU.out,if_pos (by omega),Int.toNat_natCast,HQ.out]),hide (by rw [any_step HX.out,hbad.out,HB.out];rfl)⟩
               case measure => simp [intOf];omega)
        · go_wp2
          all_goals
           first
            | (exfalso;omega)
            | (go_round
               case rel => exact ⟨k + 1,U,by omega,by go_num,rfl,hide (by rw [usedL_step HX.out,← hU.out,if_neg (by omega)];rfl),hide (by rw [any_step HX.out,hbad.out,HB.out];rfl)⟩
               case measure => simp [intOf];omega)
    · go_wp2
      go_ret2
      refine ⟨?_,rfl⟩
      have hk':k = ls.length:=by omega
      have hW:roomW ls L = 0:=by rw [roomW,if_neg HG.out,if_neg (by have:=hbad.out;rw [hk',List.take_length] at this;rw [this];decide)]
      have hU':=hU.out
      rw [hk',List.take_length] at hU'
      rw [roomN,hW,if_pos rfl,Int.toNat_natCast,HP.out,← hU']
      rfl
set_option maxHeartbeats 1000000 in
theorem refRoom_any (A:Option Addr) (ls:List Int) (c:Nat) (lim:Int) (w:World) (h:Rd w w.heap.size A (ls.map (.int .i64))) (hlen:ls.length ≤ 9223372036854775807) (hlim:I64 lim) :
 Calls Tryz.prog 253 #[.slice A ls.length c,.int .i64 lim] w (RoomP ls lim w):=by
 have H:=hide h
 obtain ⟨l1,l2⟩:=hlim
 clear h
 by_cases g:lim < 1 ∨ 15 < lim ∨ 512 < ls.length
 · have hW:roomW ls lim = 1:=by rw [roomW,if_pos g]
   have HW:=hide hW
   clear hW
   go_enter Tryz.func253,Tryz.ntmps253
   go_wp2
   all_goals
    first
     | (exfalso;omega)
     | (go_ret2;exact RoomP.bad HW.out (by decide))
 · obtain ⟨L,rfl⟩:=Int.eq_ofNat_of_zero_le (show 0 ≤ lim by omega)
   have g1:1 ≤ L:=by omega
   have g2:L ≤ 15:=by omega
   have g3:ls.length ≤ 512:=by omega
   have HG:=hide g
   clear g
   have hpow:2 ^ L ≤ 2 ^ 15:=Nat.pow_le_pow_right (by omega) g2
   obtain ⟨P,hP⟩:∃ P:Nat,2 ^ L = P:=⟨_,rfl⟩
   have hP':(2:Int) ^ L = P:=by rw [← hP,Int.natCast_pow];rfl
   rw [hP] at hpow
   have HP:=hide hP
   clear hP
   go_enter Tryz.func253,Tryz.ntmps253
   go_wp2
   go_loop [6,25] (fun n i => ∃ k U:Nat,k ≤ ls.length ∧ i = .int .i64 k ∧ n = .int .i64 ((P:Int) - (U:Int)) ∧ Hid (U = usedL L (ls.take k)) ∧ Hid ((ls.take k).any (badL L) = false)) (fun _ i => ls.length - (intOf i).toNat)
   case atStart => exact ⟨0,0,by omega,rfl,by simp,by simp [usedL,Hid],by simp [Hid]⟩
   case round =>
    obtain ⟨k,U,hk,rfl,rfl,hU,hbad⟩:=hrel
    have hUb:U ≤ 16777216:=by
     have h1:=usedL_le L (ls.take k)
     rw [← hU.out,HP.out] at h1
     have h2:(ls.take k).length ≤ 512:=by simp;omega
     have:=Nat.mul_le_mul h2 hpow
     omega
    by_cases hlt:k < ls.length
    · obtain ⟨b,o,x,rfl,hb,hx,hc⟩:=H.out.int hlt
      have HX:=hide hx
      clear hx
      by_cases hx1:x < 0 ∨ (L:Int) < x
      · have hW:roomW ls L = 7:=by
         rw [roomW,if_neg HG.out,if_pos (any_of HX.out (by simpa [badL] using hx1))]
        have HW:=hide hW
        clear hW
        go_wp2
        all_goals
         first
          | (exfalso;omega)
          | (go_ret2;exact RoomP.bad HW.out (by decide))
      · obtain ⟨x,rfl⟩:=Int.eq_ofNat_of_zero_le (show 0 ≤ x by omega)
        have hxL:x ≤ L:=by omega
        have hb2:badL L x = false:=by simp [badL];omega
        have HB:=hide hb2
        obtain ⟨Q,hQ⟩:∃ Q:Nat,2 ^ (L - x) = Q:=⟨_,rfl⟩
        have hQ':(2:Int) ^ (L - x) = Q:=by rw [← hQ,Int.natCast_pow];rfl
        have hQb:Q ≤ 32768:=by rw [← hQ];exact Nat.le_trans (Nat.pow_le_pow_right (by omega) (show L - x ≤ 15 by omega)) (by decide)
        have HQ:=hide hQ
        clear hx1 hb2 hQ
        by_cases hx0:0 < x
        · go_wp2
          all_goals
           first
            | (exfalso;omega)
            | (go_round
               case rel => exact ⟨k + 1,U + Q,by omega,by go_num,by go_num,hide (by rw [usedL_step HX.out,← hU.out,if_pos (by omega),Int.toNat_natCast,HQ.out]),hide (by rw [any_step HX.out,hbad.out,HB.out];rfl)⟩
               case measure => simp [intOf];omega)
        · go_wp2
          all_goals
           first
            | (exfalso;omega)
            | (go_round
               case rel => exact ⟨k + 1,U,by omega,by go_num,rfl,hide (by rw [usedL_step HX.out,← hU.out,if_neg (by omega)];rfl),hide (by rw [any_step HX.out,hbad.out,HB.out];rfl)⟩
               case measure => simp [intOf];omega)
    · go_wp2
      go_ret2
      refine ⟨?_,rfl⟩
      have hk':k = ls.length:=by omega
      have hW:roomW ls L = 0:=by rw [roomW,if_neg HG.out,if_neg (by have:=hbad.out;rw [hk',List.take_length] at this;rw [this];decide)]
      have hU':=hU.out
      rw [hk',List.take_length] at hU'
      rw [roomN,hW,if_pos rfl,Int.toNat_natCast,HP.out,← hU']
      rfl
def hasL (ls:List Int) (v:Int):Bool:=ls.contains v
def IndexP (ls:List Int) (v:Int) (w:World) (e:Ending) (w':World):Prop:=∃ r:Int,e = .returned (.int .i64 r) ∧ (decide (0 ≤ r) = hasL ls v) ∧ w' = w
set_option maxHeartbeats 1000000 in
theorem index_any (A:Option Addr) (ls:List Int) (c:Nat) (v:Int) (w:World) (h:Rd w w.heap.size A (ls.map (.int .i64))) (hlen:ls.length ≤ 9223372036854775807) :
 Calls Tryz.prog 258 #[.slice A ls.length c,.int .i64 v] w (IndexP ls v w):=by
 have H:=hide h
 clear h
 go_enter Tryz.func258,Tryz.ntmps258
 go_wp2
 go_loop [8] (fun i => ∃ k:Nat,k ≤ ls.length ∧ i = .int .i64 k ∧ Hid ((ls.take k).any (· == v) = false)) (fun i => ls.length - (intOf i).toNat)
 case atStart => exact ⟨0,by omega,rfl,by simp [Hid]⟩
 case round =>
  obtain ⟨k,hk,rfl,hno⟩:=hrel
  by_cases hlt:k < ls.length
  · obtain ⟨b,o,x,rfl,hb,hx,hc⟩:=H.out.int hlt
    have HX:=hide hx
    clear hx
    by_cases he:v = x
    · go_wp2
      all_goals
       first
        | (exfalso;simp_all;done)
        | (go_ret;exact ⟨k,rfl,by rw [decide_eq_true (by omega)];subst he;exact (List.elem_iff.2 (List.mem_of_getElem? HX.out)).symm,rfl⟩)
    · have hb:(v == x) = false:=by simpa using he
      have hb':(x == v) = false:=by simpa using fun h => he h.symm
      have HB:=hide hb'
      clear he hb'
      go_wp2
      go_round
      case rel => exact ⟨k + 1,by omega,by go_num,hide (by rw [any_step HX.out,hno.out,HB.out];rfl)⟩
      case measure => simp [intOf];omega
  · go_wp2
    go_ret
    refine ⟨-1,rfl, ?_,rfl⟩
    have:=hno.out
    rw [show k = ls.length by omega,List.take_length] at this
    rw [decide_eq_false (by omega)]
    unfold hasL
    rcases Bool.eq_false_or_eq_true (ls.contains v) with h | h
    · have hm:=List.elem_iff.1 h
      rw [List.any_eq_false] at this
      exact absurd (this v hm) (by simp)
    · exact h.symm
set_option maxHeartbeats 400000 in
theorem contains_any (A:Option Addr) (ls:List Int) (c:Nat) (v:Int) (w:World) (h:Rd w w.heap.size A (ls.map (.int .i64))) (hlen:ls.length ≤ 9223372036854775807) :
 Calls Tryz.prog 230 #[.slice A ls.length c,.int .i64 v] w fun e w' => e = .returned (.bool (hasL ls v)) ∧ w' = w:=by
 have H:=hide h
 clear h
 go_enter Tryz.func230,Tryz.ntmps230
 go_wp2_with (go_at_call 258;refine (index_any A ls c v _ H.out hlen).mono ?_;rintro e w' ⟨r,rfl,hr,rfl⟩)
 go_ret
 exact ⟨rfl,rfl⟩
def posL (ls:List Int):Nat:=(ls.filter (fun x => decide (0 < x))).length
def okL (ls:List Int):Bool:=decide (roomW ls 15 = 0) && (decide (usedL 15 ls = 32768) || decide (posL ls = 0) || (decide (posL ls = 1) && hasL ls 1))
def okW (ls:List Int):Int:=if okL ls then 0 else 7
theorem posL_step {l:List Int} {k:Nat} {x:Int} (h:l[k]? = some x):posL (l.take (k + 1)) = posL (l.take k) + (if 0 < x then 1 else 0):=by
 unfold posL
 rw [List.take_add_one,h,List.filter_append,List.length_append]
 simp only [Option.toList_some,List.filter_cons,List.filter_nil]
 by_cases hx:0 < x <;> simp [hx]
set_option maxHeartbeats 1000000 in
theorem canonCheck_any (A:Option Addr) (ls:List Int) (c:Nat) (w:World) (h:Rd w w.heap.size A (ls.map (.int .i64))) (hlen:ls.length ≤ 9223372036854775807) :
 Calls Tryz.prog 178 #[.slice A ls.length c] w fun e w' => e = .returned (.int .i64 (okW ls)) ∧ w' = w:=by
 have H:=hide h
 clear h
 by_cases hr:roomW ls 15 = 0
 · have HR:=hide hr
   have hn:roomN ls 15 = 32768 - (usedL 15 ls:Nat):=by rw [roomN,hr,if_pos rfl];rfl
   obtain ⟨U,hU⟩:∃ U:Nat,U = usedL 15 ls:=⟨_,rfl⟩
   rw [← hU] at hn
   have HU:=hide hU
   have h512:ls.length ≤ 512:=by
    unfold roomW at hr
    rcases Nat.lt_or_ge 512 ls.length with h | h
    · rw [if_pos (by omega)] at hr;cases hr
    · exact h
   have room:∀ W,W = w → Calls Tryz.prog 229 #[.slice A ls.length c,.int .i64 15] W fun e w' => e = .returned (.tuple #[.int .i64 (32768 - (U:Int)),.int .i64 0]) ∧ w' = w:=fun W hW => by
    subst hW
    refine (room_any A ls c 15 W H.out hlen ⟨by omega,by omega⟩).mono ?_
    rintro e w' ⟨rfl,rfl⟩
    exact ⟨by rw [hn,HR.out],rfl⟩
   have hUb:=usedL_le 15 ls
   rw [← hU] at hUb
   have hUb:U ≤ 16777216:=by omega
   clear hr hn hU
   go_enter Tryz.func178,Tryz.ntmps178
   go_wp2_with (go_at_call 229;refine (room _ rfl).mono ?_;rintro e w' ⟨rfl,rfl⟩)
   clear room
   go_loop [5,17] (fun n i => ∃ k N:Nat,k ≤ ls.length ∧ i = .int .i64 k ∧ n = .int .i64 N ∧ N ≤ k ∧ Hid (N = posL (ls.take k))) (fun _ i => ls.length - (intOf i).toNat)
   case atStart => exact ⟨0,0,by omega,rfl,rfl,by omega,by simp [Hid,posL]⟩
   case round =>
    obtain ⟨k,N,hk,rfl,rfl,hNk,hN⟩:=hrel
    by_cases hlt:k < ls.length
    · obtain ⟨b,o,x,rfl,hb,hx,hc⟩:=H.out.int hlt
      have HX:=hide hx
      clear hx
      by_cases h0:0 < x
      · go_wp2
        go_round
        case rel => exact ⟨k + 1,N + 1,by omega,by go_num,by go_num,by omega,hide (by rw [posL_step HX.out,if_pos h0,hN.out])⟩
        case measure => simp [intOf];omega
      · go_wp2
        go_round
        case rel => exact ⟨k + 1,N,by omega,by go_num,rfl,by omega,hide (by rw [posL_step HX.out,if_neg h0,hN.out];rfl)⟩
        case measure => simp [intOf];omega
    · have hN':N = posL ls:=by have:=hN.out;rwa [show k = ls.length by omega,List.take_length] at this
      have HN:=hide hN'
      clear hN'
      have fin:∀ r:Int,r = okW ls → Hid (r = okW ls):=fun r h => h
      by_cases b1:U = 32768
      · have hf:okW ls = 0:=by simp [okW,okL,HR.out,← HU.out,b1]
        have HF:=hide hf
        clear hf
        go_wp2_with fail
        all_goals
         first
          | (exfalso;simp_all;done)
          | (go_ret;exact ⟨ret_int HF.out.symm,rfl⟩)
      · have b1':((32768:Int) - (U:Int) == 0) = false:=by simp;omega
        by_cases b2:N = 0
        · have hf:okW ls = 0:=by simp [okW,okL,HR.out,← HN.out,b2]
          have HF:=hide hf
          clear hf
          go_wp2_with fail
          all_goals
           first
            | (exfalso;simp_all;done)
            | (go_ret;exact ⟨ret_int HF.out.symm,rfl⟩)
        · have b2':((N:Int) == 0) = false:=by simp;omega
          by_cases b3:N = 1
          · by_cases b4:hasL ls 1 = true
            · have hf:okW ls = 0:=by simp [okW,okL,HR.out,← HN.out,b3,b4]
              have HF:=hide hf
              subst b3
              clear hf
              go_wp2_with (go_at_call 230;refine (contains_any A ls c 1 _ H.out hlen).mono ?_;rintro e w' ⟨rfl,rfl⟩)
              all_goals
               first
                | (exfalso;simp_all;done)
                | (go_ret;exact ⟨ret_int HF.out.symm,rfl⟩)
            · have b4:hasL ls 1 = false:=by simpa using b4
              have hf:okW ls = 7:=by simp [okW,okL,HR.out,← HN.out,← HU.out,b3,b4,b1]
              have HF:=hide hf
              subst b3
              clear hf
              go_wp2_with (go_at_call 230;refine (contains_any A ls c 1 _ H.out hlen).mono ?_;rintro e w' ⟨rfl,rfl⟩)
              all_goals
               first
                | (exfalso;simp_all;done)
                | (go_ret;exact ⟨ret_int HF.out.symm,rfl⟩)
          · have b3':((N:Int) == 1) = false:=by simp;omega
            have hf:okW ls = 7:=by simp [okW,okL,HR.out,← HN.out,← HU.out,b3,b2,b1]
            have HF:=hide hf
            clear hf
            go_wp2_with fail
            all_goals
             first
              | (exfalso;simp_all;done)
              | (go_ret;exact ⟨ret_int HF.out.symm,rfl⟩)
 · have hf:okW ls = 7:=by simp [okW,okL,hr]
   have HF:=hide hf
   have hn:roomN ls 15 = 0:=by rw [roomN,if_neg hr]
   obtain ⟨R,hR⟩:∃ R,R = roomW ls 15:=⟨_,rfl⟩
   have hb:(R != 0) = true:=by simpa [hR] using hr
   have room:∀ W,W = w → Calls Tryz.prog 229 #[.slice A ls.length c,.int .i64 15] W fun e w' => e = .returned (.tuple #[.int .i64 0,.int .i64 R]) ∧ w' = w:=fun W hW => by
    subst hW
    refine (room_any A ls c 15 W H.out hlen ⟨by omega,by omega⟩).mono ?_
    rintro e w' ⟨rfl,rfl⟩
    exact ⟨by rw [hn,hR],rfl⟩
   clear hf hn hr hR
   go_enter Tryz.func178,Tryz.ntmps178
   go_wp2_with (go_at_call 229;refine (room _ rfl).mono ?_;rintro e w' ⟨rfl,rfl⟩)
   all_goals
    first
     | (exfalso;simp_all;done)
     | (go_ret;exact ⟨ret_int HF.out.symm,rfl⟩)
def lastP (ls:List Int):Int:=((ls.filter (fun x => decide (0 < x))).getLast?).getD 0
theorem lastP_step {l:List Int} {k:Nat} {x:Int} (h:l[k]? = some x):lastP (l.take (k + 1)) = if 0 < x then x else lastP (l.take k):=by
 unfold lastP
 rw [List.take_add_one,h,List.filter_append]
 simp only [Option.toList_some,List.filter_cons,List.filter_nil]
 by_cases hx:0 < x <;> simp [hx]
theorem lastP_has {ls:List Int} (h:posL ls = 1):lastP ls = 1 ↔ hasL ls 1 = true:=by
 unfold posL at h
 unfold lastP hasL
 match hf:ls.filter (fun x => decide (0 < x)),h with
 | [y],_ =>
   have hm:∀ x,x ∈ ls.filter (fun x => decide (0 < x)) ↔ x = y:=fun x => by rw [hf];simp
   simp only [List.getLast?_singleton,Option.getD_some]
   constructor
   · rintro rfl
     exact List.elem_iff.2 (List.mem_filter.1 ((hm 1).2 rfl)).1
   · intro h
     exact ((hm 1).1 (List.mem_filter.2 ⟨List.elem_iff.1 h,by decide⟩)).symm
set_option maxHeartbeats 1000000 in
theorem refCanonCheck_any (A:Option Addr) (ls:List Int) (c:Nat) (w:World) (h:Rd w w.heap.size A (ls.map (.int .i64))) (hlen:ls.length ≤ 9223372036854775807) :
 Calls Tryz.prog 214 #[.slice A ls.length c] w fun e w' => e = .returned (.int .i64 (okW ls)) ∧ w' = w:=by
 have H:=hide h
 clear h
 by_cases hr:roomW ls 15 = 0
 · have HR:=hide hr
   have hn:roomN ls 15 = 32768 - (usedL 15 ls:Nat):=by rw [roomN,hr,if_pos rfl];rfl
   obtain ⟨U,hU⟩:∃ U:Nat,U = usedL 15 ls:=⟨_,rfl⟩
   rw [← hU] at hn
   have HU:=hide hU
   have h512:ls.length ≤ 512:=by
    unfold roomW at hr
    rcases Nat.lt_or_ge 512 ls.length with h | h
    · rw [if_pos (by omega)] at hr;cases hr
    · exact h
   have room:∀ W,W = w → Calls Tryz.prog 253 #[.slice A ls.length c,.int .i64 15] W fun e w' => e = .returned (.tuple #[.int .i64 (32768 - (U:Int)),.int .i64 0]) ∧ w' = w:=fun W hW => by
    subst hW
    refine (refRoom_any A ls c 15 W H.out hlen ⟨by omega,by omega⟩).mono ?_
    rintro e w' ⟨rfl,rfl⟩
    exact ⟨by rw [hn,HR.out],rfl⟩
   have hUb:=usedL_le 15 ls
   rw [← hU] at hUb
   have hUb:U ≤ 16777216:=by omega
   clear hr hn hU
   go_enter Tryz.func214,Tryz.ntmps214
   go_wp2_with (go_at_call 253;refine (room _ rfl).mono ?_;rintro e w' ⟨rfl,rfl⟩)
   clear room
   go_loop [5,6,18] (fun n m i => ∃ k N:Nat,∃ z:Int,k ≤ ls.length ∧ i = .int .i64 k ∧ n = .int .i64 N ∧ N ≤ k ∧ m = .int .i64 z ∧ Hid (N = posL (ls.take k)) ∧ Hid (z = lastP (ls.take k))) (fun _ _ i => ls.length - (intOf i).toNat)
   case atStart => exact ⟨0,0,0,by omega,rfl,rfl,by omega,rfl,by simp [Hid,posL],by simp [Hid,lastP]⟩
   case round =>
    obtain ⟨k,N,z,hk,rfl,rfl,hNk,rfl,hN,hZ⟩:=hrel
    by_cases hlt:k < ls.length
    · obtain ⟨b,o,x,rfl,hb,hx,hc⟩:=H.out.int hlt
      have HX:=hide hx
      clear hx
      by_cases h0:0 < x
      · go_wp2
        go_round
        case rel => exact ⟨k + 1,N + 1,x,by omega,by go_num,by go_num,by omega,rfl,hide (by rw [posL_step HX.out,if_pos h0,hN.out]),hide (by rw [lastP_step HX.out,if_pos h0])⟩
        case measure => simp [intOf];omega
      · go_wp2
        go_round
        case rel => exact ⟨k + 1,N,z,by omega,by go_num,rfl,by omega,rfl,hide (by rw [posL_step HX.out,if_neg h0,hN.out];rfl),hide (by rw [lastP_step HX.out,if_neg h0,hZ.out])⟩
        case measure => simp [intOf];omega
    · have hN':N = posL ls:=by have:=hN.out;rwa [show k = ls.length by omega,List.take_length] at this
      have HN:=hide hN'
      have hZ':z = lastP ls:=by have:=hZ.out;rwa [show k = ls.length by omega,List.take_length] at this
      have HZ:=hide hZ'
      clear hZ'
      clear hN'
      have fin:∀ r:Int,r = okW ls → Hid (r = okW ls):=fun r h => h
      by_cases b1:U = 32768
      · have hf:okW ls = 0:=by simp [okW,okL,HR.out,← HU.out,b1]
        have HF:=hide hf
        clear hf
        go_wp2_with fail
        all_goals
         first
          | (exfalso;simp_all;done)
          | (go_ret;exact ⟨ret_int HF.out.symm,rfl⟩)
      · have b1':((32768:Int) - (U:Int) == 0) = false:=by simp;omega
        by_cases b2:N = 0
        · have hf:okW ls = 0:=by simp [okW,okL,HR.out,← HN.out,b2]
          have HF:=hide hf
          clear hf
          go_wp2_with fail
          all_goals
           first
            | (exfalso;simp_all;done)
            | (go_ret;exact ⟨ret_int HF.out.symm,rfl⟩)
        · have b2':((N:Int) == 0) = false:=by simp;omega
          by_cases b3:N = 1
          · have hlp:=lastP_has (ls:=ls) (by rw [← HN.out,b3])
            rw [← HZ.out] at hlp
            by_cases b4:hasL ls 1 = true
            · have bz:z = 1:=hlp.2 b4
              subst bz
              have hf:okW ls = 0:=by simp [okW,okL,HR.out,← HN.out,b3,b4]
              have HF:=hide hf
              subst b3
              clear hf hlp
              go_wp2_with fail
              all_goals
               first
                | (exfalso;simp_all;done)
                | (go_ret;exact ⟨ret_int HF.out.symm,rfl⟩)
            · have bz:(z == 1) = false:=by simpa using fun h => b4 (hlp.1 h)
              have b4:hasL ls 1 = false:=by simpa using b4
              have hf:okW ls = 7:=by simp [okW,okL,HR.out,← HN.out,← HU.out,b3,b4,b1]
              have HF:=hide hf
              subst b3
              clear hf hlp
              go_wp2_with fail
              all_goals
               first
                | (exfalso;simp_all;done)
                | (go_ret;exact ⟨ret_int HF.out.symm,rfl⟩)
          · have b3':((N:Int) == 1) = false:=by simp;omega
            have hf:okW ls = 7:=by simp [okW,okL,HR.out,← HN.out,← HU.out,b3,b2,b1]
            have HF:=hide hf
            clear hf
            go_wp2_with fail
            all_goals
             first
              | (exfalso;simp_all;done)
              | (go_ret;exact ⟨ret_int HF.out.symm,rfl⟩)
 · have hf:okW ls = 7:=by simp [okW,okL,hr]
   have HF:=hide hf
   have hn:roomN ls 15 = 0:=by rw [roomN,if_neg hr]
   obtain ⟨R,hR⟩:∃ R,R = roomW ls 15:=⟨_,rfl⟩
   have hb:(R != 0) = true:=by simpa [hR] using hr
   have room:∀ W,W = w → Calls Tryz.prog 253 #[.slice A ls.length c,.int .i64 15] W fun e w' => e = .returned (.tuple #[.int .i64 0,.int .i64 R]) ∧ w' = w:=fun W hW => by
    subst hW
    refine (refRoom_any A ls c 15 W H.out hlen ⟨by omega,by omega⟩).mono ?_
    rintro e w' ⟨rfl,rfl⟩
    exact ⟨by rw [hn,hR],rfl⟩
   clear hf hn hr hR
   go_enter Tryz.func214,Tryz.ntmps214
   go_wp2_with (go_at_call 253;refine (room _ rfl).mono ?_;rintro e w' ⟨rfl,rfl⟩)
   all_goals
    first
     | (exfalso;simp_all;done)
     | (go_ret;exact ⟨ret_int HF.out.symm,rfl⟩)
def stepsT (up:Bool):Nat → List Bool
 | 0 => []
 | d + 1 => true :: (!up) :: stepsT up d
def moveT (now l:Nat):List Bool:=(if now < l then stepsT true (l - now) else stepsT false (now - l)) ++ [false]
def tabT (now:Nat):List Nat → List Bool
 | [] => []
 | l :: ls => moveT now l ++ tabT l ls
def tableL (ls:List Nat):List Bool:=natBits (ls.headD 0) 4 ++ tabT (ls.headD 0) ls
def nextT:List Bool → Nat → Int → Int × Nat × List Bool
 | [],_,_ => (5,0,[])
 | false :: r,now,_ => (0,now,r)
 | [true],_,_ => (5,0,[])
 | true :: true :: r,now,way => if now = 0 ∨ way = 1 then (7,0,[]) else nextT r (now - 1) (-1)
 | true :: false :: r,now,way => if now = 15 ∨ way = -1 then (7,0,[]) else nextT r (now + 1) 1
def lensT:Nat → Bool → List Bool → Nat → Int × List Nat × List Bool
 | 0,_,r,_ => (0,[],r)
 | n + 1,first,r,now =>
   if (nextT r now 0).1 = 0 then
    if first = true ∧ (nextT r now 0).2.1 ≠ now then (7,[],[])
    else if (lensT n false (nextT r now 0).2.2 (nextT r now 0).2.1).1 = 0 then (0,(nextT r now 0).2.1 :: (lensT n false (nextT r now 0).2.2 (nextT r now 0).2.1).2.1,(lensT n false (nextT r now 0).2.2 (nextT r now 0).2.1).2.2)
    else ((lensT n false (nextT r now 0).2.2 (nextT r now 0).2.1).1,[],[])
   else ((nextT r now 0).1,[],[])
theorem moveT_up {now l:Nat} (h:now < l):moveT now l = true :: false :: moveT (now + 1) l:=by
 unfold moveT
 rw [if_pos h]
 obtain ⟨d,hd⟩:∃ d,l - now = d + 1:=⟨l - now - 1,by omega⟩
 rw [hd,stepsT]
 by_cases g:now + 1 < l
 · rw [if_pos g,show l - (now + 1) = d by omega];rfl
 · rw [if_neg g,show d = 0 by omega,show now + 1 - l = 0 by omega];rfl
theorem moveT_down {now l:Nat} (h:l < now):moveT now l = true :: true :: moveT (now - 1) l:=by
 unfold moveT
 rw [if_neg (by omega)]
 obtain ⟨d,hd⟩:∃ d,now - l = d + 1:=⟨now - l - 1,by omega⟩
 rw [hd,stepsT,if_neg (by omega),show now - 1 - l = d by omega];rfl
theorem moveT_same (now:Nat):moveT now now = [false]:=by
 unfold moveT;rw [if_neg (by omega),Nat.sub_self];rfl
theorem nextT_move {l:Nat} (hl:l ≤ 15):∀ (d now:Nat) (way:Int) (r:List Bool),now ≤ 15 → d = (l - now) + (now - l) → (now < l → way ≠ -1) → (l < now → way ≠ 1) → nextT (moveT now l ++ r) now way = (0,l,r):=by
 intro d
 induction d with
 | zero =>
   intro now way r hn hd _ _
   obtain rfl:now = l:=by omega
   rw [moveT_same];rfl
 | succ d ih =>
   intro now way r hn hd h1 h2
   rcases Nat.lt_or_ge now l with g | g
   · have:=h1 g
     rw [moveT_up g,List.cons_append,List.cons_append,nextT,if_neg (by omega)]
     exact ih (now + 1) 1 r (by omega) (by omega) (fun _ => by decide) (fun _ => by omega)
   · have g':l < now:=by omega
     have:=h2 g'
     rw [moveT_down g',List.cons_append,List.cons_append,nextT,if_neg (by omega)]
     exact ih (now - 1) (-1) r (by omega) (by omega) (fun _ => by omega) (fun _ => by decide)
theorem lensT_tab:∀ (ls:List Nat) (first:Bool) (now:Nat) (r:List Bool),(∀ x ∈ ls,x ≤ 15) → now ≤ 15 → (first = true → ∀ x,ls.head? = some x → x = now) → lensT ls.length first (tabT now ls ++ r) now = (0,ls,r):=by
 intro ls
 induction ls with
 | nil => intro first now r _ _ _;rfl
 | cons l ls ih =>
   intro first now r h hn hf
   have hl:=h l (by simp)
   have e:nextT (tabT now (l :: ls) ++ r) now 0 = (0,l,tabT l ls ++ r):=by
    rw [tabT,List.append_assoc]
    exact nextT_move hl _ now 0 _ hn rfl (fun _ => by decide) (fun _ => by decide)
   rw [List.length_cons,lensT,e]
   have i:=ih false l r (fun x hx => h x (List.mem_cons_of_mem _ hx)) hl (fun hh => by cases hh)
   simp only [i,if_true]
   rw [if_neg]
   rintro ⟨a,b⟩
   exact b (hf a l rfl)
theorem nextT_bits:∀ (n:Nat) (r:List Bool) (now:Nat) (way:Int) (l:Nat) (r':List Bool),r.length ≤ n → now ≤ 15 → nextT r now way = (0,l,r') → l ≤ 15 ∧ (way = 1 → now ≤ l) ∧ (way = -1 → l ≤ now) ∧ r = moveT now l ++ r':=by
 intro n
 induction n with
 | zero =>
   intro r now way l r' hr _ h
   obtain rfl:r = []:=List.eq_nil_of_length_eq_zero (by omega)
   rw [nextT] at h;cases h
 | succ n ih =>
   intro r now way l r' hr hn h
   match r,hr,h with
   | [],_,h => rw [nextT] at h;cases h
   | false :: r,_,h =>
     rw [nextT] at h
     simp only [Prod.mk.injEq,true_and] at h
     obtain ⟨rfl,rfl⟩:=h
     exact ⟨hn,fun _ => Nat.le_refl _,fun _ => Nat.le_refl _,by rw [moveT_same];rfl⟩
   | [true],_,h => rw [nextT] at h;cases h
   | true :: true :: r,hr,h =>
     rw [nextT] at h
     split at h
     · cases h
     · rename_i g
       obtain ⟨a,b,c,d⟩:=ih r (now - 1) (-1) l r' (by simp at hr;omega) (by omega) h
       have:=c rfl
       refine ⟨a,fun e => absurd (.inr e) g,fun _ => by omega, ?_⟩
       rw [moveT_down (by omega),d];rfl
   | true :: false :: r,hr,h =>
     rw [nextT] at h
     split at h
     · cases h
     · rename_i g
       obtain ⟨a,b,c,d⟩:=ih r (now + 1) 1 l r' (by simp at hr;omega) (by omega) h
       have:=b rfl
       refine ⟨a,fun _ => by omega,fun e => absurd (.inr e) g, ?_⟩
       rw [moveT_up (by omega),d];rfl
theorem lensT_bits:∀ (n:Nat) (first:Bool) (r:List Bool) (now:Nat) (ls:List Nat) (r':List Bool),now ≤ 15 → lensT n first r now = (0,ls,r') → ls.length = n ∧ (∀ x ∈ ls,x ≤ 15) ∧ (first = true → ∀ x,ls.head? = some x → x = now) ∧ r = tabT now ls ++ r':=by
 intro n
 induction n with
 | zero =>
   intro first r now ls r' _ h
   rw [lensT] at h
   simp only [Prod.mk.injEq,true_and] at h
   obtain ⟨rfl,rfl⟩:=h
   exact ⟨rfl,by simp,by simp,rfl⟩
 | succ n ih =>
   intro first r now ls r' hn h
   rw [lensT] at h
   obtain ⟨⟨k,l,r1⟩,hx⟩:∃ x,nextT r now 0 = x:=⟨_,rfl⟩
   rw [hx] at h
   simp only at h
   split at h
   · rename_i hk
     subst hk
     obtain ⟨a,_,_,d⟩:=nextT_bits r.length r now 0 l r1 (Nat.le_refl _) hn hx
     split at h
     · cases h
     · rename_i hf
       obtain ⟨⟨k2,ls2,r2⟩,hy⟩:∃ y,lensT n false r1 l = y:=⟨_,rfl⟩
       rw [hy] at h
       simp only at h
       split at h
       · rename_i hk2
         subst hk2
         simp only [Prod.mk.injEq,true_and] at h
         obtain ⟨rfl,rfl⟩:=h
         obtain ⟨a2,b2,_,d2⟩:=ih false r1 l ls2 r2 a hy
         refine ⟨by simp [a2], ?_, ?_, ?_⟩
         · intro x hx'
           rcases List.mem_cons.1 hx' with rfl | h'
           · exact a
           · exact b2 x h'
         · intro hft x hx'
           simp at hx'
           subst hx'
           rcases Decidable.em (l = now) with e | e
           · exact e
           · exact absurd ⟨hft,e⟩ hf
         · rw [d,d2,tabT,List.append_assoc]
       · rename_i hk2
         simp only [Prod.mk.injEq] at h
         exact absurd h.1 hk2
   · rename_i hk
     simp only [Prod.mk.injEq] at h
     exact absurd h.1 hk
abbrev bstr (s:ByteArray) (n:Int):Value:=.agg #[.string s,.int .i64 n]
theorem chkB_yes {s:ByteArray} {n:Int} (h0:0 ≤ n) (h1:n ≤ 1048576) (h2:((s.size:Int) != (n + 8 - 1) / 8) = false) (h3:n % 8 = 0 ∨ byt s (s.size - 1) * 2 ^ (n % 8).toNat % 256 = 0):chkB s n = 0:=by
 have h2:(s.size:Int) = (n + 8 - 1) / 8:=by simpa using h2
 have:rightB s n = true:=by
  simp only [rightB,Bool.and_eq_true,Bool.or_eq_true,decide_eq_true_eq]
  exact ⟨⟨h0,h1,by omega⟩,h3⟩
 simp [chkB,this]
theorem chkB_no {s:ByteArray} {n:Int} (h:n < 0 ∨ 1048576 < n ∨ ((s.size:Int) != (n + 8 - 1) / 8) = true ∨ (n % 8 ≠ 0 ∧ byt s (s.size - 1) * 2 ^ (n % 8).toNat % 256 ≠ 0)):chkB s n = 2:=by
 have:rightB s n = false:=by
  rcases Bool.eq_false_or_eq_true (rightB s n) with hr | hr
  · exfalso
    simp only [rightB,Bool.and_eq_true,Bool.or_eq_true,decide_eq_true_eq] at hr
    obtain ⟨⟨a,b,c⟩,d⟩:=hr
    rcases h with h | h | h | h
    · omega
    · omega
    · simp at h;omega
    · rcases d with d | d
      · exact h.1 d
      · exact h.2 d
  · exact hr
 simp [chkB,this]
theorem low_cast (x r:Nat):((x:Nat):Int) * 2 ^ r % 256 = ((x * 2 ^ r % 256:Nat):Int):=by
 rw [Int.natCast_emod,Int.natCast_mul,Int.natCast_pow];rfl
theorem low_ne {x:Nat} {r:Nat} (d:(((x:Nat):Int) * 2 ^ r % 256 != 0) = true):x * 2 ^ r % 256 ≠ 0:=by
 rw [low_cast,bne_iff_ne] at d
 omega
theorem low_eq {x:Nat} {r:Nat} (d:(((x:Nat):Int) * 2 ^ r % 256 != 0) = false):x * 2 ^ r % 256 = 0:=by
 rw [low_cast] at d
 rcases Nat.eq_zero_or_pos (x * 2 ^ r % 256) with h | h
 · exact h
 · rw [bne_iff_ne.2 (by omega)] at d;cases d
set_option maxHeartbeats 400000 in
theorem check_any (s:ByteArray) (n:Int) (w:World) (h0:I64 n) (hs:s.size ≤ 9223372036854775807) :
 Calls Tryz.prog 34 #[bstr s n] w fun e w' => e = .returned (.int .i64 (chkB s n)) ∧ Below w.heap.size w w':=by
 obtain ⟨h0,h1⟩:=h0
 go_enter Tryz.func34,Tryz.ntmps34
 go_wp2
 · have a:(n < 0 ∨ 1048576 < n) ∨ ((s.size:Int) != (n + 8 - 1) / 8) = true:=by assumption
   go_ret
   exact ⟨ret_int (chkB_no (by rcases a with a | a <;> simp [a] <;> omega)).symm,by go_grown⟩
 · have a:(0 ≤ n ∧ n ≤ 1048576) ∧ ((s.size:Int) != (n + 8 - 1) / 8) = false:=by assumption
   have b:0 < n % 8:=by assumption
   have c:(1:Int) ≤ ↑s.size ∧ (s.size:Int) - 1 < ↑s.size:=by assumption
   rename_i d
   rw [byt_of s (by omega)] at d
   go_ret
   exact ⟨ret_int (chkB_no (.inr (.inr (.inr ⟨by omega,fun h => low_ne d h⟩)))).symm,by go_grown⟩
 · have a:(0 ≤ n ∧ n ≤ 1048576) ∧ ((s.size:Int) != (n + 8 - 1) / 8) = false:=by assumption
   have b:0 < n % 8:=by assumption
   have c:(1:Int) ≤ ↑s.size ∧ (s.size:Int) - 1 < ↑s.size:=by assumption
   rename_i d
   rw [byt_of s (by omega)] at d
   go_ret
   exact ⟨ret_int (chkB_yes a.1.1 a.1.2 a.2 (.inr (low_eq d))).symm,by go_grown⟩
 · exfalso
   have a:(0 ≤ n ∧ n ≤ 1048576) ∧ ((s.size:Int) != (n + 8 - 1) / 8) = false:=by assumption
   have b:0 < n % 8:=by assumption
   have c:¬ ((1:Int) ≤ ↑s.size ∧ (s.size:Int) - 1 < ↑s.size):=by assumption
   have:=a.2;simp at this;omega
 · have a:(0 ≤ n ∧ n ≤ 1048576) ∧ ((s.size:Int) != (n + 8 - 1) / 8) = false:=by assumption
   have b:n % 8 ≤ 0:=by assumption
   go_ret
   exact ⟨ret_int (chkB_yes a.1.1 a.1.2 a.2 (.inl (by omega))).symm,by go_grown⟩
 · go_ret
   exact ⟨ret_int (chkB_no (.inr (.inl (by assumption)))).symm,by go_grown⟩
 · go_ret
   exact ⟨ret_int (chkB_no (.inl (by assumption))).symm,by go_grown⟩
theorem is_val (s:ByteArray) (i:Nat) (h:i / 8 < s.size):((((s[i / 8]'h).toNat:Int) / 2 ^ (7 - i % 8)).tmod 2 == 1) = bitAt s i:=by
 rw [byt_of]
 have e:((byt s (i / 8):Nat):Int) / 2 ^ (7 - i % 8) = ((byt s (i / 8) / 2 ^ (7 - i % 8):Nat):Int):=by push_cast;rfl
 rw [e,Int.tmod_eq_emod_of_nonneg (Int.natCast_nonneg _)]
 unfold bitAt
 rw [Bool.eq_iff_iff,beq_iff_eq,beq_iff_eq]
 omega
set_option maxHeartbeats 400000 in
theorem is_any (s:ByteArray) (n:Int) (i:Nat) (w:World) (hi:i / 8 < s.size) (hi':i ≤ 9223372036854775807) (hs:s.size ≤ 9223372036854775807) :
 Calls Tryz.prog 73 #[bstr s n,.int .i64 i] w fun e w' => e = .returned (.bool (bitAt s i)) ∧ Below w.heap.size w w':=by
 have h1:(0:Int) ≤ (i:Int) / 8 ∧ (i:Int) / 8 < s.size:=by omega
 go_enter Tryz.func73,Tryz.ntmps73
 go_wp2
 go_ret
 exact ⟨ret_bool (is_val s i hi),by go_grown⟩
theorem refChk_bit {s:ByteArray} {n:Nat} (hn:n ≤ 1048576) (hs:s.size = (n + 7) / 8) {i:Nat} (h1:n ≤ i) (h2:i < 8 * s.size) (hb:bitAt s i = true):chkB s n = 2:=by
 have:¬ rightB s n = true:=fun h => by rw [(rightB_iff hn hs).1 h i h1 h2] at hb;cases hb
 simp [chkB,this]
theorem refChk_end {s:ByteArray} {n:Nat} (hn:n ≤ 1048576) (hs:s.size = (n + 7) / 8) (h:∀ i,n ≤ i → i < 8 * s.size → bitAt s i = false):chkB s n = 0:=by
 simp [chkB,(rightB_iff hn hs).2 h]
set_option maxHeartbeats 400000 in
theorem refCheck_any (s:ByteArray) (n:Int) (w:World) (h0:I64 n) (hs:s.size ≤ 9223372036854775807) :
 Calls Tryz.prog 38 #[bstr s n] w fun e w' => e = .returned (.int .i64 (chkB s n)) ∧ Below w.heap.size w w':=by
 obtain ⟨h0,h1⟩:=h0
 by_cases g:0 ≤ n ∧ n ≤ 1048576 ∧ (s.size:Int) = (n + 7) / 8
 · obtain ⟨g0,g1,g2⟩:=g
   obtain ⟨n,rfl⟩:=Int.eq_ofNat_of_zero_le g0
   have g2':s.size = (n + 7) / 8:=by omega
   have gb:((s.size:Int) != ((n:Int) + 7) / 8) = false:=by simp;omega
   have H2:=hide g2
   have H2':=hide g2'
   clear g2 g2'
   have hsz:s.size ≤ 131072:=by have:=H2'.out;omega
   go_enter Tryz.func38,Tryz.ntmps38
   go_wp2_with fail
   go_loopw [3] (fun i wr => ∃ k:Nat,n ≤ k ∧ i = .int .i64 k ∧ Hid (∀ j,n ≤ j → j < k → bitAt s j = false) ∧ k ≤ 8 * s.size ∧ Below w.heap.size w wr ∧ wr.cell? ⟨w.heap.size,0,none⟩ = some (.string s) ∧ wr.cell? ⟨w.heap.size,1,none⟩ = some (.int .i64 n)) (fun i _ => 8 * s.size - (intOf i).toNat)
   case atStart => exact ⟨n,by omega,rfl,fun j a b => by omega,by have:=H2'.out;omega,by go_grown,by simp [go_sem],by simp [go_sem]⟩
   case round =>
    obtain ⟨k,hk,rfl,hz,hk8,hbe,c0,c1⟩:=hrel
    by_cases hlt:k < 8 * s.size
    · by_cases hb:bitAt s k = true
      · go_wp2_with (go_at_call 73;refine (is_any s n k _ (by omega) (by omega) hs).mono ?_;rintro e w' ⟨rfl,hb1⟩)
        go_ret
        exact ⟨ret_int (refChk_bit (by omega) H2'.out hk hlt hb).symm,hbe.trans (hb1.mono hbe.size)⟩
      · have hb:bitAt s k = false:=by simpa using hb
        go_wp2_with (go_at_call 73;refine (is_any s n k _ (by omega) (by omega) hs).mono ?_;rintro e w' ⟨rfl,hb1⟩)
        go_roundw
        case rel =>
         have hz1:=hbe.size
         refine ⟨k + 1,by omega,by go_num,fun j a b => ?_,by omega,hbe.trans (hb1.mono hz1), ?_, ?_⟩
         · rcases Nat.lt_or_ge j k with h | h
           · exact hz.out j a h
           · rw [show j = k by omega];exact hb
         · exact cell_later hb1 c0
         · exact cell_later hb1 c1
        case measure => simp [intOf];omega
    · go_wp2_with fail
      go_ret
      exact ⟨ret_int (refChk_end (by omega) H2'.out (fun i a b => hz.out i a (by omega))).symm,hbe⟩
 · go_enter Tryz.func38,Tryz.ntmps38
   go_wp2_with fail
   · have a:(n < 0 ∨ 1048576 < n) ∨ ((s.size:Int) != (n + 7) / 8) = true:=by assumption
     go_ret
     exact ⟨ret_int (chkB_no (by rw [show n + 8 - 1 = n + 7 by omega];rcases a with a | a <;> simp [a] <;> omega)).symm,by go_grown⟩
   · exfalso
     have a:(0 ≤ n ∧ n ≤ 1048576) ∧ ((s.size:Int) != (n + 7) / 8) = false:=by assumption
     exact g ⟨a.1.1,a.1.2,by simpa using a.2⟩
   · go_ret
     exact ⟨ret_int (chkB_no (.inr (.inl (by assumption)))).symm,by go_grown⟩
   · go_ret
     exact ⟨ret_int (chkB_no (.inl (by assumption))).symm,by go_grown⟩
theorem get_next (s:ByteArray) (at0 k A V n:Nat) (hA:A = at0 + k) (hk:k + V ≤ 64) (hV:A % 8 + V ≤ 8) (hs:A / 8 < s.size) (hn:n = getN s at0 k) :
 bits .or .u64 (IntKind.u64.wrap ((n:Int) * 2 ^ V)) (bits .and .u64 (IntKind.u64.wrap ((s[A / 8]'hs).toNat:Int) / 2 ^ (8 - A % 8 - V)) (IntKind.u64.wrap (IntKind.u64.wrap (2 ^ V) - 1))) = (getN s at0 (k + V):Nat):=by
 rw [byt_of,get_step _ _ _ _ (byt_lt _ _) (by omega),hn,getN_add,← hA,getN_byte s A V hV]
 have h1:=getN_lt s at0 k
 have h2:(getN s at0 k + 1) * 2 ^ V ≤ 2 ^ k * 2 ^ V:=Nat.mul_le_mul_right _ h1
 rw [← Nat.pow_add,Nat.add_mul,Nat.one_mul] at h2
 have h3:2 ^ (k + V) ≤ 2 ^ 64:=Nat.pow_le_pow_right (by omega) hk
 rw [hn];omega
theorem get_next0 (s:ByteArray) (at0 k A n:Nat) (hA:A = at0 + k) (hk:k + (8 - A % 8) ≤ 64) (hs:A / 8 < s.size) (hn:n = getN s at0 k) :
 bits .or .u64 (IntKind.u64.wrap ((n:Int) * 2 ^ (8 - A % 8))) (bits .and .u64 (IntKind.u64.wrap ((s[A / 8]'hs).toNat:Int)) (IntKind.u64.wrap (IntKind.u64.wrap (2 ^ (8 - A % 8)) - 1))) = (getN s at0 (k + (8 - A % 8)):Nat):=by
 have h:=get_next s at0 k A (8 - A % 8) n hA hk (by omega) hs hn
 rw [Nat.sub_self,Int.pow_zero,Int.ediv_one] at h
 exact h
set_option maxHeartbeats 1000000 in
theorem get_any (s:ByteArray) (m:Int) (at0 wd:Nat) (w:World) (hw:wd ≤ 64) (ha:at0 + wd ≤ 8 * s.size) (hs:s.size ≤ 1000000000) :
 Calls Tryz.prog 231 #[bstr s m,.int .i64 at0,.int .i64 wd] w fun e w' => e = .returned (.int .u64 (getN s at0 wd)) ∧ Below w.heap.size w w':=by
 go_enter Tryz.func231,Tryz.ntmps231
 go_wp2
 go_loopw [1,2,7] (fun a v n wr => ∃ k:Nat,k ≤ wd ∧ a = .int .i64 ((at0 + k:Nat):Int) ∧ v = .int .i64 ((wd - k:Nat):Int) ∧ n = .int .u64 (getN s at0 k) ∧ Below w.heap.size w wr ∧ wr.cell? ⟨w.heap.size,0,none⟩ = some (.string s)) (fun _ v _ _ => (intOf v).toNat)
 case atStart => exact ⟨0,by omega,rfl,rfl,rfl,by go_grown,by simp [go_sem]⟩
 case round =>
  obtain ⟨k,hk,rfl,rfl,rfl,hbe,c0⟩:=hrel
  obtain ⟨A,hA⟩:∃ A,A = at0 + k:=⟨_,rfl⟩
  obtain ⟨V,hV⟩:∃ V,V = wd - k:=⟨_,rfl⟩
  obtain ⟨N,hN⟩:∃ N,N = getN s at0 k:=⟨_,rfl⟩
  rw [← hA,← hV,← hN]
  have HA:=hide hA
  have HV:=hide hV
  have HN:=hide hN
  have f1:0 < V → A / 8 < s.size:=by omega
  have f2:V ≤ 64:=by omega
  have f4:A ≤ 8000000000:=by omega
  clear hA hV hN
  by_cases h:0 < V
  · have f3:(A:Int) / 8 < s.size:=by have:=f1 h;omega
    have f3':=f1 h
    have e1:IntKind.i64.wrap ((A:Int) / 8) = (A:Int) / 8:=IntWalk.i64_in _ ⟨by omega,by omega⟩
    have e2:(0:Int) ≤ (A:Int) / 8:=by omega
    clear f1
    by_cases g:V ≤ 8 - A % 8
    · have m1:min (V:Int) (8 - (A:Int) % 8) = V:=by omega
      have e3:IntKind.i64.wrap (8 - (A:Int) % 8 - (V:Int)) = 8 - (A:Int) % 8 - (V:Int):=IntWalk.i64_in _ ⟨by omega,by omega⟩
      have e4:(0:Int) ≤ 8 - (A:Int) % 8 - (V:Int):=by omega
      go_wp2
      go_region
      go_wp2
      go_roundw
      case rel => exact ⟨wd,by omega,by have:=HA.out;have:=HV.out;go_num,by go_num,by rw [get_next s at0 k A V N HA.out (by have:=HV.out;omega) (by omega) f3' HN.out,show k + V = wd by have:=HV.out;omega],hbe.drew,by simpa [go_sem] using c0⟩
      case measure => simp [intOf];omega
    · have m1:min (V:Int) (8 - (A:Int) % 8) = 8 - (A:Int) % 8:=by omega
      have e4:(1:Int) ≤ 8 - (A:Int) % 8:=by omega
      go_wp2
      go_region
      go_wp2
      go_roundw
      case rel => exact ⟨k + (8 - A % 8),by have:=HV.out;omega,by have:=HA.out;have:=HV.out;go_num,by have:=HV.out;go_num,by rw [get_next0 s at0 k A N HA.out (by have:=HV.out;omega) f3' HN.out],hbe.drew,by simpa [go_sem] using c0⟩
      case measure => simp [intOf];omega
  · go_wp2
    go_ret
    exact ⟨ret_int (by have:=HA.out;have:=HV.out;rw [HN.out,show k = wd by omega]),hbe⟩
set_option maxHeartbeats 400000 in
theorem at_any (s:ByteArray) (m:Int) (at0 wd:Nat) (w:World) (hw:wd ≤ 64) (ha:at0 + wd ≤ 8 * s.size) (hs:s.size ≤ 1000000000) :
 Calls Tryz.prog 180 #[bstr s m,.int .i64 at0,.int .i64 wd] w fun e w' => e = .returned (.int .u64 (getN s at0 wd)) ∧ Below w.heap.size w w':=by
 go_enter Tryz.func180,Tryz.ntmps180
 go_wp2_with (go_at_call 231;refine (get_any s m at0 wd _ hw ha hs).mono ?_;rintro e w' ⟨rfl,hb1⟩)
 go_ret
 exact ⟨rfl,by have:=hb1.mono (B':=w.heap.size) (by simp);exact (Below.alloc (Below.refl _ _) (Nat.le_refl _) _).trans this⟩
theorem info_u8:(Tryz.prog.info? 5).map (fun i => (i.zero,i.size,i.bytes)) = some (some (.int .u8 0),1,1):=by kernel_rfl
def wbits (out:List Nat) (last n:Nat):List Bool:=out.flatMap (natBits · 8) ++ natBits last n
theorem wbits_length (out:List Nat) (last n:Nat):(wbits out last n).length = 8 * out.length + n:=by
 unfold wbits
 rw [List.length_append,natBits_length]
 congr 1
 induction out with
 | nil => rfl
 | cons x l ih => simp [ih];omega
def Wr (w:World) (p:Nat) (row:Option Nat) (l:List Bool):Prop :=
 ∃ (v:Value) (out:List Nat) (last n:Nat),Bk w p 103 #[v,.int .u64 last,.int .i64 n] ∧ w.ownsRow 0 5 1 v out.length (vby out) ∧ v.ownBlock = row ∧
   n < 8 ∧ last < 2 ^ n ∧ (∀ b ∈ out,b < 256) ∧ wbits out last n = l
def wS (p:Nat) (row:Option Nat):Nat → Prop:=fun g => g = p ∨ row = some g
def rowNew (w:World) (row row':Option Nat):Prop:=row' = row ∨ ∃ g,row' = some g ∧ w.heap.size ≤ g
theorem wbits_more (out:List Nat) (last n x k:Nat) (hx:x < 2 ^ k):wbits out (last * 2 ^ k + x) (n + k) = wbits out last n ++ natBits x k:=by
 unfold wbits;rw [natBits_join _ _ _ _ hx,List.append_assoc]
theorem wbits_full (out:List Nat) (x:Nat):wbits (out ++ [x]) 0 0 = wbits out x 8:=by
 unfold wbits;simp [natBits]
theorem wr_step {l:List Bool} {out:List Nat} {last n v V k K:Nat} (hb:wbits out last n = l ++ natBits (v / 2 ^ V) k) (hK:K ≤ V) :
 wbits out (last * 2 ^ K + v / 2 ^ (V - K) % 2 ^ K) (n + K) = l ++ natBits (v / 2 ^ (V - K)) (k + K):=by
 rw [wbits_more _ _ _ _ _ (Nat.mod_lt _ (Nat.two_pow_pos K)),hb,natBits_mod _ _ _ (Nat.le_refl K),natBits_append,List.append_assoc,Nat.div_div_eq_div_mul,← Nat.pow_add,show V - K + K = V by omega]
theorem last_lt {last n x K:Nat} (hl:last < 2 ^ n) (hx:x < 2 ^ K):last * 2 ^ K + x < 2 ^ (n + K):=by
 have:(last + 1) * 2 ^ K ≤ 2 ^ n * 2 ^ K:=Nat.mul_le_mul_right _ hl
 rw [Nat.pow_add];rw [Nat.add_mul,Nat.one_mul] at this;omega
theorem rowNew.step {w wc:World} {row row1 row2:Option Nat} (h:rowNew w row row1) (h2:rowNew wc row1 row2) (hs:w.heap.size ≤ wc.heap.size):rowNew w row row2:=by
 rcases h2 with rfl | ⟨g,rfl,hg⟩
 · exact h
 · exact .inr ⟨g,rfl,by omega⟩
theorem wS_new {w:World} {p:Nat} {row row1:Option Nat} (h:rowNew w row row1):∀ g,row1 = some g → wS p row g ∨ w.heap.size ≤ g:=by
 rintro g rfl
 rcases h with h | ⟨g',h,hg⟩
 · exact .inl (.inr h.symm)
 · exact .inr (by simp at h;omega)
theorem wr_full {w wc w1:World} {p g1 cap1:Nat} {row row1:Option Nat} {v1:Value} {out:List Nat} {L:Nat} {l:List Bool} {cs:Array Value} {X:Obj}
 (hb:Bk wc p 103 cs) (hcs:cs.size = 3) (ho:wc.ownsRow 0 5 1 v1 out.length (vby out)) (hf:Fr (wS p row) w wc) (hr:v1.ownBlock = row1) (hrn:rowNew w row row1)
 (hgr:((wc.alloc X).drew).grownBy w1 v1.ownBlock) (hown:w1.ownsRow 0 5 1 (.slice (some ⟨g1,0,none⟩) (out.length + 1) cap1) (out.length + 1) (vby out ++ [.int .u8 (L:Nat)]))
 (hat:v1.ownBlock = some g1 ∨ g1 = wc.heap.size + 1) (hL:L < 256) (hout:∀ b ∈ out,b < 256) (hl:wbits out L 8 = l) (u1 u2:Value) (e1:u1 = .int .u64 0) (e2:u2 = .int .i64 0) :
 Wr (((w1.setCell ⟨p,0,none⟩ (.slice (some ⟨g1,0,none⟩) (out.length + 1) cap1)).setCell ⟨p,1,none⟩ u1).setCell ⟨p,2,none⟩ u2) p (some g1) l ∧
 rowNew w row (some g1) ∧ Fr (wS p row) w (((w1.setCell ⟨p,0,none⟩ (.slice (some ⟨g1,0,none⟩) (out.length + 1) cap1)).setCell ⟨p,1,none⟩ u1).setCell ⟨p,2,none⟩ u2):=by
 subst e1 e2 hr
 have hb1:Bk w1 p 103 cs:=((hb.alloc _).drew).grown hgr (own_ne ho hb (by decide))
 have hne:some p ≠ (Value.slice (some ⟨g1,0,none⟩) (out.length + 1) cap1).ownBlock:=own_ne hown hb1 (by decide)
 have hrn2:rowNew w row (some g1):=hrn.step (wc:=wc) (by rcases hat with h | h;exact .inl h.symm;exact .inr ⟨g1,rfl,by omega⟩) hf.size
 refine ⟨⟨.slice (some ⟨g1,0,none⟩) (out.length + 1) cap1,out ++ [L],0,0, ?_, ?_,rfl,by omega,by omega, ?_,by rw [wbits_full];exact hl⟩,hrn2, ?_⟩
 · have:=((hb1.set_ 0 (.slice (some ⟨g1,0,none⟩) (out.length + 1) cap1)).set_ 1 (.int .u64 0)).set_ 2 (.int .i64 0)
   obtain ⟨cs⟩:=cs
   match cs,hcs with
   | [a,b,c],_ => simpa using this
 · have e:(out ++ [L]).length = out.length + 1:=by simp
   rw [e]
   have:=own_set (p:=⟨p,2,none⟩) (own_set (p:=⟨p,1,none⟩) (own_set (p:=⟨p,0,none⟩) hown (fun h => hne h.symm) (.slice (some ⟨g1,0,none⟩) (out.length + 1) cap1)) (fun h => hne h.symm) (.int .u64 0)) (fun h => hne h.symm) (.int .i64 0)
   simpa [vby] using this
 · intro b hb
   rcases List.mem_append.1 hb with h | h
   · exact hout b h
   · simp at h;omega
 · have h1:Fr (wS p row) w w1:=((hf.alloc X).drew).trans (Fr.grown (S:=fun g => v1.ownBlock = some g) hgr (fun g hg => hg)) (fun g hg => wS_new hrn g hg)
   exact ((h1.setCell (.inl (.inl rfl)) _).setCell (.inl (.inl rfl)) _).setCell (.inl (.inl rfl)) _
set_option maxHeartbeats 1000000 in
theorem add_any (p:Nat) (row:Option Nat) (l:List Bool) (v wd:Nat) (w:World) (hv:v < 18446744073709551616) (hw:wd ≤ 64) (h:Wr w p row l) (hl:l.length + wd ≤ 1000000000000) :
 Calls Tryz.prog 103 #[.pointer (some ⟨p,0,none⟩),.int .u64 v,.int .i64 wd] w fun e w' => e = .returned (.tuple #[]) ∧ ∃ row',Wr w' p row' (l ++ natBits v wd) ∧ rowNew w row row' ∧ Fr (wS p row) w w':=by
 obtain ⟨i0,hi,hz0,hz1,hz2⟩:=info_parts info_u8
 go_enter Tryz.func103,Tryz.ntmps103
 go_wp2
 go_loopw [2] (fun x wr => ∃ k row1,k ≤ wd ∧ x = .int .i64 ((wd - k:Nat):Int) ∧ Wr wr p row1 (l ++ natBits (v / 2 ^ (wd - k)) k) ∧ rowNew w row row1 ∧ Fr (wS p row) w wr) (fun x _ => (intOf x).toNat)
 case atStart => exact ⟨0,row,by omega,rfl,by simpa [natBits] using h,.inl rfl,Fr.refl _ _⟩
 case round =>
  obtain ⟨k,row1,hk,rfl,hwr,hrn,hfr⟩:=hrel
  obtain ⟨V,hV⟩:∃ V,V = wd - k:=⟨_,rfl⟩
  rw [← hV] at hwr ⊢
  have HV:=hide hV
  have f2:V ≤ 64:=by omega
  clear hV
  have hwr0:=hide hwr
  obtain ⟨v1,out,last,n,hbk,hown,hrow,hn8,hlast,hout,hbits⟩:=hwr
  have c0:=hbk.cell 0
  have c1:=hbk.cell 1
  have c2:=hbk.cell 2
  have z0:=hbk.free 0
  have z1:=hbk.free 1
  have z2:=hbk.free 2
  simp at c0 c1 c2
  have hol:out.length ≤ 200000000000:=by have:=wbits_length out last n;rw [hbits] at this;simp at this;omega
  have HB:=hide hbits
  have HR:=hide hrow
  have HL:=hide hlast
  clear hbits hrow hlast
  by_cases h:0 < V
  · go_upto_region 1 with (fail)
    go_cut [6] (fun s6 wx => ∃ K:Nat,K ≤ V ∧ K ≤ 8 - n ∧ 0 < K ∧ (K = V ∨ K = 8 - n) ∧ s6 = .int .i64 K ∧ wr = wx)
    case first =>
     by_cases g:V < 8 - n
     · go_wp2
       all_goals go_meet
       all_goals first
        | exact ⟨V,by omega,by omega,h,.inl rfl,rfl,rfl⟩
        | exact ⟨8 - n,by omega,by omega,by omega,.inr rfl,by go_num,rfl⟩
     · go_wp2
       all_goals go_meet
       all_goals first
        | exact ⟨V,by omega,by omega,h,.inl rfl,rfl,rfl⟩
        | exact ⟨8 - n,by omega,by omega,by omega,.inr rfl,by go_num,rfl⟩
    case rest =>
    obtain ⟨K,hKV,hKn,hK0,hKe,rfl,rfl⟩:=hcut
    have e1:IntKind.i64.wrap ((V:Int) - (K:Int)) = (V:Int) - (K:Int):=IntWalk.i64_in _ ⟨by omega,by omega⟩
    have e2:(0:Int) ≤ (V:Int) - (K:Int):=by omega
    go_wp2
    go_region
    go_wp2
    go_cut [] (fun wx => Bk wx p 103 #[v1,.int .u64 ((last * 2 ^ K + v / 2 ^ (V - K) % 2 ^ K:Nat):Int),.int .i64 ((n + K:Nat):Int)] ∧ wx.ownsRow 0 5 1 v1 out.length (vby out) ∧ Fr (wS p row) w wx ∧ wr.heap.size ≤ wx.heap.size)
    case first =>
     go_region
     go_wp2
     go_meet
     have eL:bits .or .u64 (IntKind.u64.wrap ((last:Int) * 2 ^ K)) (bits .and .u64 ((v:Int) / 2 ^ (V - K)) (IntKind.u64.wrap (IntKind.u64.wrap (2 ^ K) - 1))) = ((last * 2 ^ K + v / 2 ^ (V - K) % 2 ^ K:Nat):Int):=by
      have e:(v:Int) / 2 ^ (V - K) = ((v / 2 ^ (V - K):Nat):Int):=by rw [Int.natCast_ediv,Int.natCast_pow];rfl
      have hd:=Nat.div_le_self v (2 ^ (V - K))
      have hm:=Nat.mod_lt (v / 2 ^ (V - K)) (Nat.two_pow_pos K)
      have h8:2 ^ (n + K) ≤ 2 ^ 8:=Nat.pow_le_pow_right (by omega) (by omega)
      have:=last_lt HL.out hm
      rw [e,mask_nat _ _ (by omega) (by omega),shl_or _ _ _ hm (by omega)]
     rw [eL]
     have hnp:v1.ownBlock ≠ some p:=fun h => own_ne hown hbk (by decide) h.symm
     refine ⟨Bk.drew (Bk.drew (by simpa using ((hbk.set_ 1 _).set_ 2 _))),own_set (p:=⟨p,2,none⟩) (own_set (p:=⟨p,1,none⟩) hown hnp _) hnp _,(((hfr.setCell (.inl (.inl rfl)) _).setCell (.inl (.inl rfl)) _).drew).drew,by simp [World.setCell]⟩
    case rest =>
     obtain ⟨hb,ho,hf,hsz⟩:=hcut
     have d0:=hb.cell 0
     have d1:=hb.cell 1
     have d2:=hb.cell 2
     have y0:=hb.free 0
     have y1:=hb.free 1
     have y2:=hb.free 2
     simp at d0 d1 d2
     clear c0 c1 c2 z0 z1 z2
     by_cases hfull:n + K = 8
     · have hdX:∀ X:Obj,(wc.alloc X).cell? ⟨p,0,none⟩ = some v1:=fun X => (World.cell?_alloc_lt wc X ⟨p,0,none⟩ hb.lt).trans d0
       have hoX:∀ X:Obj,Hid ((wc.alloc X).drew.ownsRow 0 5 1 v1 out.length (vby out)):=fun X => ho.alloc X
       have hcX:∀ (u:Value) (t:TypeId),Hid (∀ j x,[u][j]? = some x → (wc.alloc (.cells #[u] t)).drew.cell? ((⟨wc.heap.size,0,none⟩:Addr).add j) = some x):=fun u t => cell_one_new wc u t
       go_wp2
       go_region_law ((refine step_append_lies _ rfl (.tmp 60) (.tmp 66) 38 rfl 0 5 i0 (.int .u8 0) 1 1 Tryz.underlying38 hi hz0 hz1 hz2 rfl (by omega) v1 out.length (vby out) (by simp [Act.eval]) (hoX _).out ⟨wc.heap.size,0,none⟩ 1 1 [_] (by simp [Act.eval]) rfl (hcX _ _).out (by intro u hu;simp at hu;subst hu;rfl) (by omega) (by unfold maxLen;omega) (by omega) (Nat.zero_le _) (wc.heap.size + 1) (by simp) ?_;intro g1 cap1 w1 hown1 hgr1 hat1 hlt1;have hb1:=((hb.alloc _).drew).grown hgr1 (own_ne ho hb (by decide));have q0:=hb1.cell 0;have q1:=hb1.cell 1;have q2:=hb1.cell 2;have x0:=hb1.free 0;have x1:=hb1.free 1;have x2:=hb1.free 2;simp at q0 q1 q2))
       go_wp2
       all_goals
        have hm:=Nat.mod_lt (v / 2 ^ (V - K)) (Nat.two_pow_pos K)
        have hlt:=last_lt HL.out hm
        rw [hfull] at hlt
        have eU:IntKind.u8.wrap ((last:Int) * 2 ^ K + (v:Int) / 2 ^ (V - K) % 2 ^ K) = ((last * 2 ^ K + v / 2 ^ (V - K) % 2 ^ K:Nat):Int):=by
         have e:(last:Int) * 2 ^ K + (v:Int) / 2 ^ (V - K) % 2 ^ K = ((last * 2 ^ K + v / 2 ^ (V - K) % 2 ^ K:Nat):Int):=by
          rw [Int.natCast_add,Int.natCast_mul,Int.natCast_emod,Int.natCast_ediv,Int.natCast_pow,Int.natCast_pow];rfl
         rw [e];exact IntWalk.u8_in _ ⟨by omega,by omega⟩
        rw [eU] at hown1 hgr1
        obtain ⟨r1,r2,r3⟩:=wr_full (l:=l ++ natBits (v / 2 ^ (V - K)) (k + K)) hb rfl ho hf HR.out hrn hgr1 hown1 hat1 hlt hout (by rw [← wr_step HB.out hKV,hfull]) (.int .u64 0) (.int .i64 0) rfl rfl
        go_roundw
        case rel => exact ⟨k + K,some g1,by have:=HV.out;omega,by have:=HV.out;go_num,by rw [show wd - (k + K) = V - K by have:=HV.out;omega];exact r1,r2,r3⟩
        case measure => simp [intOf];omega
     · go_wp2
       go_roundw
       case rel =>
        have hm:=Nat.mod_lt (v / 2 ^ (V - K)) (Nat.two_pow_pos K)
        exact ⟨k + K,row1,by have:=HV.out;omega,by have:=HV.out;go_num,⟨v1,out,_,_,hb,ho,HR.out,by omega,last_lt HL.out hm,hout,by rw [wr_step HB.out hKV,show wd - (k + K) = V - K by have:=HV.out;omega]⟩,hrn,hf⟩
       case measure => simp [intOf];omega
  · go_wp2
    go_end0
    exact ⟨rfl,row1,by have:=hwr0.out;have e:=HV.out;rw [show V = 0 by omega,show k = wd by omega] at this;simpa using this,hrn,hfr⟩
theorem Wr.fr {w w':World} {p:Nat} {row:Option Nat} {l:List Bool} {S:Nat → Prop} (h:Wr w p row l) (hf:Fr S w w') (hp:¬ S p) (hr:∀ g,row = some g → ¬ S g):Wr w' p row l:=by
 obtain ⟨v,out,last,n,hb,ho,hrow,r⟩:=h
 exact ⟨v,out,last,n,hb.fr hf hp,own_fr ho hf (fun g hg => hr g (by rw [← hrow];exact hg)),hrow,r⟩
theorem Wr.lt {w:World} {p:Nat} {row:Option Nat} {l:List Bool} (h:Wr w p row l):p < w.heap.size ∧ ∀ g,row = some g → g < w.heap.size:=by
 obtain ⟨v,out,last,n,hb,ho,hrow,r⟩:=h
 exact ⟨hb.lt,fun g hg => own_lt ho g (by rw [hrow];exact hg)⟩
theorem Wr.below {w w':World} {p:Nat} {row:Option Nat} {l:List Bool} (h:Wr w p row l) (hb:Below w.heap.size w w'):Wr w' p row l :=
 h.fr (Fr.below hb (fun _ => False)) (fun h => h) (fun _ _ h => h)
theorem Wr.drewN {w:World} {p:Nat} {row:Option Nat} {l:List Bool} (h:Wr w p row l) (n:Nat):Wr (w.drewN n) p row l:=h
theorem Wr.new (w:World):Wr (w.alloc (.cells #[.slice none 0 0,.int .u64 0,.int .i64 0] 103)) w.heap.size none [] :=
 ⟨.slice none 0 0,[],0,0,Bk.new _ _ _,World.ownsRow_nil _ _ _ _,rfl,by omega,by omega,by simp,rfl⟩
set_option maxHeartbeats 1000000 in
theorem len_any (p:Nat) (row:Option Nat) (l:List Bool) (w:World) (h:Wr w p row l) (hl:l.length ≤ 1000000000000) :
 Calls Tryz.prog 61 #[.pointer (some ⟨p,0,none⟩)] w fun e w' => e = .returned (.int .i64 (l.length:Nat)) ∧ ∃ n,w' = w.drewN n:=by
 obtain ⟨v,out,last,n,hb,ho,hrow,hn,_,_,hbits⟩:=h
 have hlen:=wbits_length out last n
 rw [hbits] at hlen
 obtain ⟨A,c,hv⟩:∃ A c,v = .slice A out.length c:=by
  rcases ho.2 with ⟨hv,hn⟩ | ⟨g,cap,cur,hv,_⟩
  · exact ⟨none,0,by rw [hn];exact hv⟩
  · exact ⟨_,cap,hv⟩
 subst hv
 have c0:=hb.cell 0
 have c2:=hb.cell 2
 simp at c0 c2
 have HL:=hide hlen
 have e1:IntKind.i64.wrap ((out.length:Int) * 8) = (out.length:Int) * 8:=IntWalk.i64_in _ ⟨by omega,by omega⟩
 have e2:IntKind.i64.wrap ((out.length:Int) * 8 + (n:Int)) = (out.length:Int) * 8 + (n:Int):=IntWalk.i64_in _ ⟨by omega,by omega⟩
 clear hlen hbits ho hrow hb
 go_enter Tryz.func61,Tryz.ntmps61
 go_wp2
 go_quiet (fail)
 go_wp2
 go_ret
 exact ⟨ret_int (by rw [HL.out];push_cast;omega),_,rfl⟩
theorem flat_get (out:List Nat):∀ (i:Nat),i < 8 * out.length → (out.flatMap (natBits · 8))[i]? = some (out.getD (i / 8) 0 / 2 ^ (7 - i % 8) % 2 == 1):=by
 induction out with
 | nil => intro i h;simp at h
 | cons x out ih =>
   intro i h
   rw [List.flatMap_cons]
   by_cases h8:i < 8
   · rw [List.getElem?_append_left (by simpa using h8),natBits_get _ _ _ h8]
     rw [show i / 8 = 0 by omega,show i % 8 = i by omega]
     simp
   · rw [List.getElem?_append_right (by simp;omega),natBits_length,ih (i - 8) (by simp at h;omega)]
     rw [show i / 8 = (i - 8) / 8 + 1 by omega,show i % 8 = (i - 8) % 8 by omega]
     simp
theorem natBits_zero (k:Nat):natBits 0 k = List.replicate k false:=by
 induction k with
 | zero => rfl
 | succ k ih => rw [natBits,ih,List.replicate_succ];simp
theorem bs_of {out':List Nat} {l:List Bool} (hout:∀ b ∈ out',b < 256) (k:Nat) (he:out'.flatMap (natBits · 8) = l ++ List.replicate k false) (hl:l.length ≤ 1048576) (hs:out'.length = (l.length + 7) / 8) :
 Bs (strOf out') l.length l:=by
 refine Bs.mk hl (by rw [strOf_size];exact hs) fun i hi => ?_
 rw [strOf_size] at hi
 have h1:=flat_get out' i hi
 unfold bitAt
 rw [strOf_byt _ hout]
 rw [he] at h1
 by_cases hil:i < l.length
 · rw [List.getElem?_append_left hil] at h1
   have e:l.getD i false = (l[i]?).getD false:=List.getD_eq_getElem?_getD
   rw [e,h1];rfl
 · rw [List.getElem?_append_right (by omega)] at h1
   have e:l.getD i false = false:=by rw [List.getD_eq_getElem?_getD,List.getElem?_eq_none (by omega)];rfl
   rw [e]
   have h2:i - l.length < k:=by
    rcases Nat.lt_or_ge (i - l.length) k with h | h
    · exact h
    · rw [List.getElem?_eq_none (by simpa using h)] at h1;cases h1
   rw [List.getElem?_replicate,if_pos h2] at h1
   simpa using h1
theorem last_full {last n:Nat} (hl:last < 2 ^ n) (hn:n ≤ 8):last * 2 ^ (8 - n) < 256:=by
 have:(last + 1) * 2 ^ (8 - n) ≤ 2 ^ n * 2 ^ (8 - n):=Nat.mul_le_mul_right _ hl
 rw [← Nat.pow_add,show n + (8 - n) = 8 by omega,Nat.add_mul,Nat.one_mul] at this
 have:=Nat.two_pow_pos (8 - n)
 omega
theorem bs_part {out:List Nat} {last n:Nat} {l:List Bool} (hout:∀ b ∈ out,b < 256) (hn:n < 8) (h0:0 < n) (hlast:last < 2 ^ n) (hb:wbits out last n = l) (hl:l.length ≤ 1048576) :
 Bs (strOf (out ++ [last * 2 ^ (8 - n)])) l.length l:=by
 have hf:=last_full hlast (by omega)
 have hlen:=wbits_length out last n
 rw [hb] at hlen
 refine bs_of (fun b h => ?_) (8 - n) ?_ hl (by simp;omega)
 · rcases List.mem_append.1 h with h | h
   · exact hout b h
   · simp at h;omega
 · have e:=natBits_join last 0 n (8 - n) (Nat.two_pow_pos _)
   rw [Nat.add_zero,show n + (8 - n) = 8 by omega,natBits_zero] at e
   rw [← hb,List.flatMap_append]
   simp only [List.flatMap_cons,List.flatMap_nil,List.append_nil,e,wbits,List.append_assoc]
theorem bs_whole {out:List Nat} {last:Nat} {l:List Bool} (hout:∀ b ∈ out,b < 256) (hb:wbits out last 0 = l) (hl:l.length ≤ 1048576):Bs (strOf out) l.length l:=by
 have hlen:=wbits_length out last 0
 rw [hb] at hlen
 exact bs_of hout 0 (by rw [← hb];simp [wbits,natBits]) hl (by omega)
set_option maxHeartbeats 2000000 in
theorem wbits_any (p:Nat) (row:Option Nat) (l:List Bool) (w:World) (h:Wr w p row l) (hl:l.length ≤ 1048576) :
 Calls Tryz.prog 63 #[.pointer (some ⟨p,0,none⟩)] w fun e w' => ∃ s,e = .returned (.agg #[.string s,.int .i64 (l.length:Nat)]) ∧ Bs s l.length l ∧ Below w.heap.size w w':=by
 have hW:=hide h
 obtain ⟨v,out,last,n,hb,ho,hrow,hn,hlast,hout,hbits⟩:=h
 have hlen:=wbits_length out last n
 rw [hbits] at hlen
 obtain ⟨A,c,hv⟩:∃ A c,v = .slice A out.length c:=by
  rcases ho.2 with ⟨hv,hn⟩ | ⟨g,cap,cur,hv,_⟩
  · exact ⟨none,0,by rw [hn];exact hv⟩
  · exact ⟨_,cap,hv⟩
 subst hv
 have c0:=hb.cell 0
 have c1:=hb.cell 1
 have c2:=hb.cell 2
 simp at c0 c1 c2
 have HL:=hide hlen
 have HB:=hide hbits
 have HR:=hide hrow
 have HLa:=hide hlast
 have f1:out.length ≤ 1000000:=by omega
 have hpX:p < w.heap.size:=hb.lt
 clear hlen hbits hrow hlast
 obtain ⟨i0,hi,hz0,hz1,hz2⟩:=info_parts info_u8
 have hrd:=own_rd ho
 have hcap:out.length ≤ c:=by
  rcases ho.2 with ⟨hv,hn⟩ | ⟨g,cap,cur,hv,_,_,hc,_⟩
  · omega
  · simp only [Value.slice.injEq] at hv;omega
 go_enter Tryz.func63,Tryz.ntmps63
 go_upto_if 12 with (fail)
 go_cut [3] (fun s3 wx => ∃ A' c' out',s3 = .slice A' out'.length c' ∧ Hid (∃ B,Rd wx B A' (vby out')) ∧ Bs (strOf out') l.length l ∧ Bk wx w.heap.size 27 #[.string ⟨#[]⟩,.int .i64 0] ∧ Below w.heap.size w wx)
 case first =>
  by_cases h0:0 < n
  · have e1:IntKind.i64.wrap (8 - (n:Int)) = 8 - (n:Int):=IntWalk.i64_in _ ⟨by omega,by omega⟩
    have e2:(0:Int) ≤ 8 - (n:Int):=by omega
    have hvl:Hid ((vby out).length = out.length * 1):=by show _ = _;simp
    have hone:∀ x:Int,∀ u ∈ [Value.int .u8 x],u.oneCell' = true:=fun x u hu => by simp at hu;subst hu;rfl
    have hml:Hid (out.length + 1 ≤ maxLen):=by show _ ≤ _;unfold maxLen;omega
    have hml2:Hid ((out.length + 1) * 1 ≤ 140737488355328):=by show _ ≤ _;omega
    have hnone:Hid (A = none → out.length = 0 ∧ out.length = 0):=fun hA => by
     rcases Nat.eq_zero_or_pos out.length with h | h
     · exact ⟨h,h⟩
     · obtain ⟨b,o,hA',_⟩:=hrd 0 (.int .u8 (out[0]:Nat)) (by simp [vby,h])
       rw [hA] at hA';cases hA'
    have holds:∀ X Y:Obj,Hid (∀ b,A = some b → ∀ j u,(vby out)[j]? = some u → ((w.alloc X).alloc Y).drew.cell? (b.add j) = some u):=fun X Y b hA j u hu => by
     obtain ⟨b',o,hA',hb',hc'⟩:=hrd j u hu
     rw [hA] at hA';cases hA'
     rw [Addr.add_lit]
     exact (World.cell?_alloc_lt _ _ _ (by simp;omega)).trans ((World.cell?_alloc_lt _ _ _ hb').trans hc')
    have hnew:∀ (X:Obj) (u:Value) (t:TypeId),Hid (∀ j x,[u][j]? = some x → ((w.alloc X).alloc (.cells #[u] t)).drew.cell? ((⟨w.heap.size + 1,0,none⟩:Addr).add j) = some x):=fun X u t => by
     have:=cell_one_new (w.alloc X) u t
     rw [show (w.alloc X).heap.size = w.heap.size + 1 by simp] at this
     exact this
    go_wp2
    go_region_law ((refine step_append_grows rfl (.tmp 18) (.tmp 30) 38 rfl 5 i0 (.int .u8 0) 1 1 Tryz.underlying38 hi hz0 hz1 hz2 rfl (by decide) A out.length out.length (vby out) rfl hnone.out hvl.out (holds _ _).out ⟨w.heap.size + 1,0,none⟩ 1 1 [_] rfl rfl (hnew _ _ _).out (hone _) (Nat.lt_succ_self _) (hml.out) (hml2.out) ?_;intro v2 w2 hown2 hgr2))
    all_goals
     have hbe2:Below w.heap.size w w2:=(((Below.refl _ _).alloc (Nat.le_refl _) _).alloc (by simp) _).drew.grown hgr2 (by simp;omega) (by simp)
     have hb2:Bk w2 w.heap.size 27 #[.string ⟨#[]⟩,.int .i64 0]:=((((Bk.new w _ _).alloc _)).drew).grown hgr2 (by simp)
     have hlf:=last_full HLa.out (by omega)
     have eU:IntKind.u8.wrap (IntKind.u64.wrap ((last:Int) * 2 ^ (8 - n))) = ((last * 2 ^ (8 - n):Nat):Int):=by
      have e:(last:Int) * 2 ^ (8 - n) = ((last * 2 ^ (8 - n):Nat):Int):=by rw [Int.natCast_mul,Int.natCast_pow];rfl
      rw [e,u64n _ (by omega)];exact IntWalk.u8_in _ ⟨by omega,by omega⟩
     rw [eU] at hown2
     obtain ⟨g2,cp2,rfl,hg2,hg2'⟩:=hown2.form (by omega)
     have hrd2:=own_rd hown2
     clear hgr2
     go_wp2
     go_meet
     exact ⟨some ⟨g2,0,none⟩,cp2,out ++ [last * 2 ^ (8 - n)],by simp,⟨_,by rw [show vby (out ++ [last * 2 ^ (8 - n)]) = vby out ++ [.int .u8 ((last * 2 ^ (8 - n):Nat):Int)] by simp [vby]];exact hrd2⟩,bs_part hout hn h0 HLa.out HB.out hl,hb2,hbe2⟩
  · go_wp2
    go_meet
    exact ⟨A,c,out,rfl,⟨_,hrd.alloc (Nat.le_refl _) _⟩,bs_whole (last:=last) hout (by have:=HB.out;rwa [show n = 0 by omega] at this) hl,Bk.new _ _ _,by go_grown⟩
 case rest =>
  obtain ⟨A',c',out',rfl,hrd',hbs,hbk,hbe⟩:=hcut
  obtain ⟨B',hrd'⟩:=hrd'.out
  have cv:∀ n,(convert 38 9 (.slice A' out'.length c')).run Tryz.prog (wc.drewN n) = .ok (.string (strOf out')) (wc.drewN n):=fun n =>
   run_conv Tryz.prog (wc.drewN n) 38 5 Tryz.underlying38 Tryz.underlying5 9 Tryz.underlying9 (hrd'.drewN n) c'
  have cv0:(convert 38 9 (.slice A' out'.length c')).run Tryz.prog wc.drew = .ok (.string (strOf out')) wc.drew:=cv 1
  have hW1:∀ n,Wr (wc.drewN n) p row l:=fun n => (hW.out.below hbe).drewN n
  have cl:∀ n,Calls Tryz.prog 61 #[.pointer (some ⟨p,0,none⟩)] (wc.drewN n) fun e w' => e = .returned (.int .i64 (l.length:Nat)) ∧ ∃ m,w' = (wc.drewN n).drewN m:=fun n => len_any p row l (wc.drewN n) (hW1 n) (by omega)
  have d0:=hbk.cell 0
  have d1:=hbk.cell 1
  have z0:=hbk.free 0
  have z1:=hbk.free 1
  simp at d0 d1
  clear c0 c1 c2 hW1
  go_wp2
  go_region_with (go_at_call 61;refine (cl 1).mono ?_;rintro e w' ⟨rfl,m,rfl⟩)
  all_goals
   have k:=((hbk.drewN (1 + m)).set_ 0 (.string (strOf out'))).set_ 1 (.int .i64 (l.length:Nat))
   have k0:=k.cell 0
   have k1:=k.cell 1
   simp at k0 k1
   go_wp2
   refine bodyPost_ret (v:=.agg #[.string (strOf out'),.int .i64 (l.length:Nat)]) (by simp [results,Tryz.results63,go_sem,k0,k1]) rfl ?_
   exact ⟨strOf out',rfl,hbs,((below_drewN hbe _).setCell (Nat.le_refl _) _).setCell (Nat.le_refl _) _⟩
theorem get_i (s:ByteArray) (m a wd:Int) (w:World) (h0:0 ≤ a) (h1:0 ≤ wd) (hw:wd ≤ 64) (ha:a + wd ≤ 8 * s.size) (hs:s.size ≤ 1000000000) :
 Calls Tryz.prog 231 #[bstr s m,.int .i64 a,.int .i64 wd] w fun e w' => e = .returned (.int .u64 (getN s a.toNat wd.toNat)) ∧ Below w.heap.size w w':=by
 obtain ⟨a,rfl⟩:=Int.eq_ofNat_of_zero_le h0
 obtain ⟨wd,rfl⟩:=Int.eq_ofNat_of_zero_le h1
 exact get_any s m a wd w (by omega) (by omega) hs
theorem at_i (s:ByteArray) (m a wd:Int) (w:World) (h0:0 ≤ a) (h1:0 ≤ wd) (hw:wd ≤ 64) (ha:a + wd ≤ 8 * s.size) (hs:s.size ≤ 1000000000) :
 Calls Tryz.prog 180 #[bstr s m,.int .i64 a,.int .i64 wd] w fun e w' => e = .returned (.int .u64 (getN s a.toNat wd.toNat)) ∧ Below w.heap.size w w':=by
 obtain ⟨a,rfl⟩:=Int.eq_ofNat_of_zero_le h0
 obtain ⟨wd,rfl⟩:=Int.eq_ofNat_of_zero_le h1
 exact at_any s m a wd w (by omega) (by omega) hs
theorem add_i (p:Nat) (row:Option Nat) (l:List Bool) (v wd:Int) (w:World) (h0:0 ≤ v) (h1:0 ≤ wd) (hv:v < 18446744073709551616) (hw:wd ≤ 64) (h:Wr w p row l) (hl:l.length + wd.toNat ≤ 1000000000000) :
 Calls Tryz.prog 103 #[.pointer (some ⟨p,0,none⟩),.int .u64 v,.int .i64 wd] w fun e w' => e = .returned (.tuple #[]) ∧ ∃ row',Wr w' p row' (l ++ natBits v.toNat wd.toNat) ∧ rowNew w row row' ∧ Fr (wS p row) w w':=by
 obtain ⟨v,rfl⟩:=Int.eq_ofNat_of_zero_le h0
 obtain ⟨wd,rfl⟩:=Int.eq_ofNat_of_zero_le h1
 exact add_any p row l v wd w (by omega) (by omega) h hl
theorem Wr.apart {w:World} {p g:Nat} {row:Option Nat} {l:List Bool} {t:TypeId} {cs:Array Value} (h:Wr w p row l) (hb:Bk w g t cs) (h5:5 ≠ t) (h67:103 ≠ t):¬ wS p row g:=by
 obtain ⟨v,out,last,n,hk,ho,hrow,r⟩:=h
 rintro (rfl | hg)
 · exact Bk.ne_ hk hb h67 rfl
 · exact own_ne ho hb h5 (by rw [hrow,hg])
def tabW (ls:List Int):Int:=if ls.length = 0 then 7 else okW ls
def tabBits (ls:List Int):List Bool:=tableL (ls.map Int.toNat)
theorem moveT_length (now l:Nat):(moveT now l).length = 1 + 2 * ((l - now) + (now - l)):=by
 have key:∀ (u:Bool) (d:Nat),(stepsT u d).length = 2 * d:=by
  intro u d
  induction d with
  | zero => rfl
  | succ d ih => rw [stepsT,List.length_cons,List.length_cons,ih];omega
 unfold moveT
 by_cases h:now < l
 · rw [if_pos h,List.length_append,key];simp;omega
 · rw [if_neg h,List.length_append,key];simp;omega
theorem tabT_length_le:∀ (ls:List Nat) (now:Nat),now ≤ 15 → (∀ x ∈ ls,x ≤ 15) → (tabT now ls).length ≤ 31 * ls.length:=by
 intro ls
 induction ls with
 | nil => intro _ _ _;simp [tabT]
 | cons l ls ih =>
   intro now hn h
   have hl:=h l (by simp)
   have:=ih l hl (fun x hx => h x (List.mem_cons_of_mem _ hx))
   rw [tabT,List.length_append,moveT_length,List.length_cons]
   omega
theorem okL_nat {ls:List Int} (h:okL ls = true):ls.length ≤ 512 ∧ ∀ x ∈ ls,0 ≤ x ∧ x ≤ 15:=by
 unfold okL at h
 simp only [Bool.and_eq_true,decide_eq_true_eq] at h
 have h:=h.1
 unfold roomW at h
 split at h
 · cases h
 · rename_i g
   split at h
   · cases h
   · rename_i g2
     refine ⟨by omega,fun x hx => ?_⟩
     have:¬ badL 15 x = true:=fun hb => g2 (List.any_eq_true.2 ⟨x,hx,hb⟩)
     unfold badL at this
     simp only [Bool.or_eq_true,decide_eq_true_eq,not_or] at this
     omega
theorem tabW_zero {ls:List Int} (h:tabW ls = 0):okL ls = true ∧ ls.length ≠ 0:=by
 unfold tabW at h
 split at h
 · cases h
 · rename_i g
   unfold okW at h
   split at h
   · rename_i k;exact ⟨k,g⟩
   · cases h
theorem tabBits_length_le {ls:List Int} (h:okL ls = true):(tabBits ls).length ≤ 20000:=by
 obtain ⟨h1,h2⟩:=okL_nat h
 have h3:∀ x ∈ ls.map Int.toNat,x ≤ 15:=fun x hx => by
  obtain ⟨y,hy,rfl⟩:=List.mem_map.1 hx
  have:=h2 y hy;omega
 have h4:(ls.map Int.toNat).headD 0 ≤ 15:=by
  cases hl:ls.map Int.toNat with
  | nil => simp
  | cons x l => rw [hl] at h3;exact h3 x (by simp)
 have:=tabT_length_le _ _ h4 h3
 unfold tabBits tableL
 rw [List.length_append,natBits_length]
 rw [List.length_map] at this
 omega
theorem dropN {ls:List Int} {k:Nat} {x:Int} (h:ls[k]? = some x):(ls.map Int.toNat).drop k = x.toNat :: (ls.map Int.toNat).drop (k + 1):=by
 rw [← List.map_drop,← List.map_drop]
 have hk:=(List.getElem?_eq_some_iff.1 h)
 obtain ⟨hk,rfl⟩:=hk
 rw [List.drop_eq_getElem_cons hk];rfl
def Rdr (w:World) (p:Nat) (s:ByteArray) (N a:Nat):Prop:=Bk w p 195 #[.string s,.int .i64 N,.int .i64 a]
def Sents (w:World) (e0 e1:Value):Prop:=w.cell? ⟨1,0,none⟩ = some e0 ∧ w.cell? ⟨2,0,none⟩ = some e1
def TakeP (p:Nat) (s:ByteArray) (N a k:Nat) (e0:Value) (w:World) (e:Ending) (w':World):Prop :=
 (N < a + k ∧ e = .returned (.tuple #[.int .i64 0,e0]) ∧ ∃ j,w' = w.drewN j) ∨
 (a + k ≤ N ∧ e = .returned (.tuple #[.int .i64 (getN s a k:Nat),.nilIface]) ∧ Rdr w' p s N (a + k) ∧ Fr (fun g => g = p) w w')
set_option maxHeartbeats 2000000 in
theorem take_any (p:Nat) (s:ByteArray) (N a k:Nat) (e0 e1:Value) (w:World) (hr:Rdr w p s N a) (hS:Sents w e0 e1) (hN:N ≤ 1048576) (hs:s.size = (N + 7) / 8) (ha:a ≤ N) (hk:k ≤ 4) :
 Calls Tryz.prog 176 #[.pointer (some ⟨p,0,none⟩),.int .i64 k] w (TakeP p s N a k e0 w):=by
 obtain ⟨g0,g1⟩:=hS
 have c0:=hr.cell 0
 have c1:=hr.cell 1
 have c2:=hr.cell 2
 have f2:=hr.free 2
 simp at c0 c1 c2
 have HR:=hide hr
 have HS:=hide hs
 clear hr hs
 by_cases g:N < a + k
 · have gd:decide ((N:Int) - (a:Int) < (k:Int)) = true:=decide_eq_true (by omega)
   go_enter Tryz.func176,Tryz.ntmps176
   go_wp2_with fail
   go_region
   go_wp2_with fail
   go_region
   go_wp2_with fail
   go_ret2
   exact .inl ⟨g,rfl,2,rfl⟩
 · have gd:decide ((N:Int) - (a:Int) < (k:Int)) = false:=decide_eq_false (by omega)
   have at_:∀ W,Calls Tryz.prog 180 #[bstr s N,.int .i64 a,.int .i64 k] W fun e w' => e = .returned (.int .u64 (getN s a k:Nat)) ∧ Below W.heap.size W w':=fun W => at_any s N a k W (by omega) (by have:=HS.out;omega) (by have:=HS.out;omega)
   obtain ⟨V,hV⟩:∃ V,V = getN s a k:=⟨_,rfl⟩
   have hVb:V < 16:=by
    have h1:=getN_lt s a k
    have h2:2 ^ k ≤ 2 ^ 4:=Nat.pow_le_pow_right (by omega) hk
    rw [hV];omega
   rw [← hV] at at_
   have HAt:=hide at_
   have HV:=hide hV
   clear at_ hV
   go_enter Tryz.func176,Tryz.ntmps176
   go_wp2_with fail
   go_region
   go_wp2_with fail
   go_region_with (go_at_call 180;refine (Calls.mono (HAt.out _) ?_);rintro e w1 ⟨rfl,hb1⟩;have hr1:Rdr w1 p s N a:=(HR.out.drewN 2).keep hb1)
   all_goals
    have d0:=hr1.cell 2
    have d1:=hr1.free 2
    simp at d0
    go_wp2_with fail
    go_ret2
    exact .inr ⟨by omega,by rw [← HV.out];rfl,hr1.set_ 2 (.int .i64 ((a + k:Nat):Int)),(Fr.below (hb1:Below (w.drewN 2).heap.size (w.drewN 2) w1) _ |> fun h => (⟨h.os,h.tape,h.output,h.size,h.block⟩:Fr (fun g => g = p) w w1)).setCell (.inl rfl) _⟩
theorem drop_bit (s:ByteArray) {N a:Nat} (h:a < N):(bitsL s N).drop a = bitAt s a :: (bitsL s N).drop (a + 1):=by
 rw [List.drop_eq_getElem_cons (by simpa using h)]
 congr 1
 have:=bitsL_get s h
 rw [List.getElem?_eq_getElem (by simpa using h)] at this
 simpa using this
theorem getN_one (s:ByteArray) (a:Nat):getN s a 1 = (bitAt s a).toNat:=by
 have h1:=natBits_getN s a 1
 have h2:=getN_lt s a 1
 have h3:=natBits_get (getN s a 1) 1 0 (by omega)
 rw [h1] at h3
 simp at h3
 have h4:getN s a 1 < 2:=h2
 rw [h3]
 rcases (show getN s a 1 = 0 ∨ getN s a 1 = 1 by omega) with e | e <;> rw [e] <;> rfl
theorem next_one {s:ByteArray} {N a now:Nat} {way:Int} (h:a < N) (hb:bitAt s a = false):nextT ((bitsL s N).drop a) now way = (0,now,(bitsL s N).drop (a + 1)):=by
 rw [drop_bit s h,hb,nextT]
theorem next_end {s:ByteArray} {N a now:Nat} {way:Int} (h:N ≤ a):nextT ((bitsL s N).drop a) now way = (5,0,[]):=by
 rw [List.drop_eq_nil_of_le (by simpa using h),nextT]
theorem next_half {s:ByteArray} {N a now:Nat} {way:Int} (h:a < N) (hb:bitAt s a = true) (h2:N ≤ a + 1):nextT ((bitsL s N).drop a) now way = (5,0,[]):=by
 rw [drop_bit s h,hb,List.drop_eq_nil_of_le (by simpa using h2),nextT]
theorem next_down {s:ByteArray} {N a now:Nat} {way:Int} (h:a + 1 < N) (hb:bitAt s a = true) (hb2:bitAt s (a + 1) = true):nextT ((bitsL s N).drop a) now way = if now = 0 ∨ way = 1 then (7,0,[]) else nextT ((bitsL s N).drop (a + 2)) (now - 1) (-1):=by
 rw [drop_bit s (show a < N by omega),hb,drop_bit s h,hb2,nextT]
theorem next_up {s:ByteArray} {N a now:Nat} {way:Int} (h:a + 1 < N) (hb:bitAt s a = true) (hb2:bitAt s (a + 1) = false):nextT ((bitsL s N).drop a) now way = if now = 15 ∨ way = -1 then (7,0,[]) else nextT ((bitsL s N).drop (a + 2)) (now + 1) 1:=by
 rw [drop_bit s (show a < N by omega),hb,drop_bit s h,hb2,nextT]
end Go.Proofs.YtcfnjpokfodmoaaGreatDoor
