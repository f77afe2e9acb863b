/- A range over a function whose rounds are known by their places: round k is handed just what place k says. (The library's laws ask the body at whatever it may be handed; here the body is right only for what really comes.) -/
import Derived.RangeFuncNested
import Derived.RangeFuncBound
import Derived.RangeFuncCalls
import Derived.RangeFuncLeaves
import Derived.RangeFuncFrom
import Derived.Shelf.Abstract
import Derived.Shelf.RegionOpen
import Derived.OwnWalkIn
import Derived.TacticsInMore
import Derived.LoopNIn
import Derived.LoopIn
import Derived.Test.YtggffiikfelbjaaPNext
namespace Go.Proofs.Ytggffiikfelbjaa
open Go.RowKit Go.Shelf

attribute [local go_sem] Oper.semAt_some

/-- What an iterator owes whose round k hands over just 'encs k', N rounds in all. -/
def SeqPos (F : Fence) (n : Nat) (P : Program) (g : Nat) (lb : Array Value) (encs : Nat → Array Value) (S : Nat → Prop) (N : Nat) (w : World) : Prop :=
  ∀ (l : Nat) (J : Nat → World → Prop) (W : World), Below w.heap.size w W →
    (∀ k W1, k < N → J k W1 → YieldAt F (n - 1) P l (encs k) W1 fun e W' => e = .returned (.bool true) ∧ J (k + 1) W' ∧ Fr S W1 W') →
    J 0 W → CallsIn F n P g (#[.func (.yield l) #[] #[]] ++ lb) W fun e W' => (∃ v, e = .returned v) ∧ J N W'

section
variable {F : Fence} {n : Nat} {P : Program}
theorem range_pos {g : Operand} {ps : Array Tmp} {assign body : Code} {Q : Exit → Act → World → Prop} {a : Act} {w : World}
    (hro : F.round = none) (h1 : 1 ≤ n) {gf : Nat} {lb : Array Value} (hg : a.eval g = .func (.func gf) #[] lb) (hFg : F.fn gf) (eg : ∀ args w, (callFunc gf args).run P w = .ok (.enter gf args) w)
    {S : Nat → Prop} {N : Nat} {encs : Nat → Array Value} (hps : ∀ k, (encs k).size = ps.size) (hS : ∀ k, w.heap.size ≤ k → S k) (hseq : SeqPos F (n - 1) P gf lb encs S N w)
    (I : Nat → World → Prop) (hI : OwnFrom w.heap.size I) (h0 : I 0 w) (a1 : Nat → Act)
    (hassign : ∀ (l k : Nat) (W : World) (K : Act → World → Prop), K (a1 k) W →
      assign.wpIn (F.inRound l) (n - 1 - 1) P (Exit.then K (fun _ _ _ => False)) { tmps := (ps.zip (encs k)).foldl (fun t (p, v) => t.setIfInBounds p v) a.tmps, defers := [] } W)
    (hbody : ∀ (l k : Nat) (W : World), k < N → I k W → body.wpIn (F.inRound l) (n - 1 - 1) P (fun e _ W' => e = .normal ∧ KeepsOthers W W' ∧ Fr S W W' ∧ I (k + 1) W') (a1 k) W)
    (hdone : ∀ (D : Nat) (W : World), w.heap.size ≤ D → I N W → W.heap[D]? = some (.deferred (some [])) → Q .normal { a with defers := { target := .collected D, args := #[] } :: a.defers } W) :
    (Code.rangeFunc g ps assign body).wpIn F n P Q a w := by
  refine wpIn_rangeFunc fun fn hfn => ?_
  rw [hro]
  -- the loop's record, in its states
  obtain ⟨R, hR⟩ : ∃ R : LoopState → Loop, ∀ s, R s = { state := s, pending := none, fn := fn, tmps := a.tmps, params := ps, assign := assign, body := body, defers := w.heap.size } := ⟨_, fun _ => rfl⟩
  obtain ⟨V, hV⟩ : ∃ V, V = (w.alloc (.deferred (some []))).alloc (.loop (R .ready)) := ⟨_, rfl⟩
  have vl : V.heap[w.heap.size + 1]? = some (.loop (R .ready)) := by
    have := World.alloc_heap_new (w.alloc (.deferred (some []))) (.loop (R .ready))
    rw [World.size_alloc] at this
    rw [hV]; exact this
  have vd : V.heap[w.heap.size]? = some (.deferred (some [])) := by
    rw [hV]; exact (Below.heap_alloc _ _ _ (by simp)).trans (World.alloc_heap_new w _)
  have vb : Below w.heap.size w V := by
    rw [hV]; exact ((Below.refl _ w).alloc (Nat.le_refl _) _).alloc (by simp) _
  have v0 : I 0 V := by rw [hV]; exact hI.alloc _ (hI.alloc _ h0)
  have ent : (Instr.enterLoop fn a.tmps ps assign body none).run P w = .ok (w.heap.size + 1, [{ target := .collected w.heap.size, args := #[] }]) V := by
    rw [hV, hR]; exact run_enterLoop_outer _ _ _ _ _
  refine ⟨w.heap.size + 1, [{ target := .collected w.heap.size, args := #[] }], V, { target := .fn (.func gf) lb, args := #[.func (.yield (w.heap.size + 1)) #[] #[]] }, V, gf, #[.func (.yield (w.heap.size + 1)) #[] #[]] ++ lb, V, ent, ?_, ?_, ?_, fun _ => h1, ?_⟩
  · simp only [resolve, hg]; simp [go_sem]
  · intro f' hf'
    simp [Target.leads] at hf'
    subst hf'
    exact hFg
  · simp [invoke, go_sem, eg]
  clear ent hV
  -- what is true between two rounds
  have it := hseq (w.heap.size + 1) (fun k W => I k W ∧ W.heap[w.heap.size + 1]? = some (.loop (R .ready)) ∧ W.heap[w.heap.size]? = some (.deferred (some []))) V vb ?_ ⟨v0, vl, vd⟩
  · refine it.mono ?_
    rintro e W ⟨⟨v, rfl⟩, hi, hl, hd⟩
    have hend := run_endLoop (P := P) hl (by rw [hR]; simp)
    refine ⟨none, _, by rw [hend, hR], hdone w.heap.size _ (Nat.le_refl _) (hI.putObj _ hi (by omega) hl rfl) ((World.putObj_heap_other (by omega)).trans hd)⟩
  · rintro k W hk ⟨hi, hl, hd⟩
    have hlt : w.heap.size + 1 < W.heap.size := (Array.getElem?_eq_some_iff.1 hl).1
    obtain ⟨W2, hW2⟩ : ∃ W2, W2 = W.putObj (w.heap.size + 1) (.loop (R .busy)) := ⟨_, rfl⟩
    have beg : (Instr.beginRound (w.heap.size + 1)).run P W = .ok () W2 := by
      have := run_beginRound (P := P) hl (by rw [hR])
      rw [this, hW2, hR, hR]
    have l2 : W2.heap[w.heap.size + 1]? = some (.loop (R .busy)) := by rw [hW2]; exact World.putObj_heap_same hlt
    have d2 : W2.heap[w.heap.size]? = some (.deferred (some [])) := by rw [hW2]; exact (World.putObj_heap_other (by omega)).trans hd
    have i2 : I k W2 := by rw [hW2]; exact hI.putObj _ hi (by omega) hl rfl
    have b2 : Fr S W W2 := by rw [hW2]; exact Fr.grown (grownBy_putObj' _ _ _) (fun g e => by cases e; exact hS _ (by omega))
    have hy := run_yield (P := P) (args := encs k) hl (by rw [hR]; exact hps k)
    rw [hR] at hy
    refine ⟨fn, _, assign, body, hy, roundIn_of_wpIn hfn (hassign _ k W _ ⟨W2, beg, ?_⟩)⟩
    refine wpIn_mono (hbody _ k W2 hk i2) ?_
    rintro e a3 W3 ⟨rfl, ko, b3, i3⟩
    have l3 := ko.same _ _ l2 rfl
    have fin := run_endRound (P := P) none l3
    obtain ⟨W4, hW4⟩ : ∃ W4, W4 = W3.putObj (w.heap.size + 1) (.loop (R .ready)) := ⟨_, rfl⟩
    have fin2 : (Instr.endRound (w.heap.size + 1) none).run P W3 = .ok (.bool true) W4 := by
      rw [fin, hW4, hR, hR]; rfl
    refine ⟨_, _, fin2, rfl, ⟨?_, ?_, ?_⟩, ?_⟩
    · rw [hW4]; exact hI.putObj _ i3 (by omega) l3 rfl
    · rw [hW4]; exact World.putObj_heap_same (Array.getElem?_eq_some_iff.1 l3).1
    · rw [hW4]; exact (World.putObj_heap_other (by omega)).trans (ko.same _ _ d2 rfl)
    · rw [hW4]; exact (b2.trans b3 (fun _ h => .inl h)).trans (Fr.grown (S := S) (grownBy_putObj' _ _ _) (fun g e => by cases e; exact hS _ (by omega))) (fun _ h => .inl h)
end
#print axioms range_pos
end Go.Proofs.Ytggffiikfelbjaa
