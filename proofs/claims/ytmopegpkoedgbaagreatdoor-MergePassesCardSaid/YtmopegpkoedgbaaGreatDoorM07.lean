/- Lemmas for the row: RangeSt, RangeSa. -/
import Derived.Test.YtmopegpkoedgbaaGreatDoorM01
import Derived.RangeFuncBound
import Derived.RangeFuncCalls
import Derived.RangeFuncIn
import Derived.RangeFuncLeaves
import Derived.RangeFuncNested
import Derived.RangeFuncRecord
set_option linter.unusedVariables false
set_option linter.unusedSimpArgs false
/- A range over a function whose iterator keeps state in cells: the two blocks of the loop are known to both sides; all else is the caller's word. No program in sight. -/
namespace Go.Proofs.YtmopegpkoedgbaaGreatDoor
open Go Go.RowKit

theorem Fr.putObj (w : World) (l : Nat) (o : Obj) : Fr (fun g => g = l) w (w.putObj l o) :=
  ⟨rfl, rfl, rfl, by rw [World.putObj_size]; exact Nat.le_refl _, fun k _ hk => World.putObj_heap_other hk⟩
/-- What abides the turn of a block from b on that is no cells. -/
def Stays (b : Nat) (I : World → Prop) : Prop := ∀ (W : World) (l : Nat) (o o' : Obj), I W → b ≤ l → W.heap[l]? = some o → o.isCells = false → I (W.putObj l o')
/-- The loop's two blocks lie as they lay. -/
def Two (k : Nat) (W W' : World) : Prop := W'.heap[k]? = W.heap[k]? ∧ W'.heap[k + 1]? = W.heap[k + 1]?
theorem Two.refl (k : Nat) (W : World) : Two k W W := ⟨rfl, rfl⟩
theorem Two.fr {k : Nat} {S : Nat → Prop} {A B : World} (h : Fr S A B) (hk : k + 1 < A.heap.size) (h1 : ¬ S k) (h2 : ¬ S (k + 1)) : Two k A B := ⟨h.block k (by omega) h1, h.block (k + 1) hk h2⟩
/-- How a round may be left. -/
def endsIn (k : Nat) (G : World → Prop) (Ix : Code → World → Prop) (W : World) : Exit → Act → World → Prop
  | .normal, _, W' => Two k W W' ∧ G W'
  | .ret, _, W' => Two k W W' ∧ Ix .ret W'
  | .exit id, _, W' => Two k W W' ∧ Ix (.exit id) W'
  | .goto t, _, W' => Two k W W' ∧ Ix (.goto t) W'
  | .panic _, _, _ => False
  | .outgrown, _, _ => False

end Go.Proofs.YtmopegpkoedgbaaGreatDoor
/- A range over a function whose rounds lay what they are handed in a new block (a variable of the round's own): the law of RangeSt, with that block. No program in sight. -/
namespace Go.Proofs.YtmopegpkoedgbaaGreatDoor
open Go Go.RowKit

theorem ne_cell {W : World} {g l : Nat} {t : TypeId} {cs : Array Value} {o : Obj} (h : Bk W g t cs) (hl : W.heap[l]? = some o) (ho : o.isCells = false) : g ≠ l := by
  rintro rfl
  unfold Bk at h
  rw [h] at hl
  cases hl
  cases ho
theorem Bk.stay {W : World} {g l : Nat} {t : TypeId} {cs : Array Value} {o : Obj} (h : Bk W g t cs) (o' : Obj) (hl : W.heap[l]? = some o) (ho : o.isCells = false) : Bk (W.putObj l o') g t cs := h.fr (Fr.putObj W l o') (ne_cell h hl ho)
theorem below_stay {n : Nat} {w W : World} {l : Nat} (h : Below n w W) (o' : Obj) (hl : n ≤ l) : Below n w (W.putObj l o') :=
  ⟨h.os, h.tape, h.output, by rw [World.putObj_size]; exact h.size, fun k hk => (World.putObj_heap_other (by omega)).trans (h.block k hk)⟩

theorem wpIn_rangeFunc_sa {F : Fence} {n : Nat} {P : Program} {α : Type} {g : Operand} {ps : Array Tmp} {assign body : Code} {Q : Exit → Act → World → Prop} {a : Act} {w : World}
    (hro : F.round = none) (h1 : 1 ≤ n) {gf : Nat} {lb : Array Value} (hg : a.eval g = .func (.func gf) #[] lb) (hFg : F.fn gf) (eg : ∀ args w, (callFunc gf args).run P w = .ok (.enter gf args) w)
    {encs : α → Array Value} (hps : ∀ x, (encs x).size = ps.size)
    (Y G : α → World → Prop) (Ix : Code → World → Prop) (Dn : World → Prop) (hY : ∀ x, Stays w.heap.size (Y x)) (hG : ∀ x, Stays w.heap.size (G x)) (hIx : ∀ c, Stays w.heap.size (Ix c)) (hDn : Stays w.heap.size Dn) (a₁ : α → Nat → Act) (ot : TypeId) (oc : α → Array Value) (hYa : ∀ x W o, Y x W → Y x (W.alloc o))
    (hiter : ∀ (l : Nat) (W1 : World) (ol : Loop) (Out : World → Prop), l = w.heap.size + 1 → W1 = (w.alloc (.deferred (some []))).alloc (.loop ol) →
      (∀ (x : α) (W : World), Y x W → Two w.heap.size W1 W → YieldAt F (n - 1 - 1) P l (encs x) W fun e W' => (e = .returned (.bool true) ∧ G x W' ∧ Two w.heap.size W1 W') ∨ (e = .returned (.bool false) ∧ Out W')) →
      CallsIn F (n - 1) P gf (#[.func (.yield l) #[] #[]] ++ lb) W1 fun e W' => (∃ v, e = .returned v) ∧ ((Dn W' ∧ Two w.heap.size W1 W') ∨ Out W'))
    (hassign : ∀ (l : Nat) (x : α) (W : World) (K : Act → World → Prop), K (a₁ x W.heap.size) (W.alloc (.cells (oc x) ot)) →
      assign.wpIn (F.inRound l) (n - 1 - 1) P (Exit.then K (fun _ _ _ => False)) { tmps := (ps.zip (encs x)).foldl (fun t (p, v) => t.setIfInBounds p v) a.tmps, defers := [] } W)
    (hbody : ∀ (l : Nat) (x : α) (b : Nat) (W : World), Y x W → w.heap.size + 1 < b → Bk W b ot (oc x) → body.wpIn (F.inRound l) (n - 1 - 1) P (endsIn w.heap.size (G x) Ix W) (a₁ x b) W)
    (hdone : ∀ (W : World), Dn W → W.heap[w.heap.size]? = some (.deferred (some [])) → Q .normal { a with defers := { target := .collected w.heap.size, args := #[] } :: a.defers } W)
    (hstop : ∀ (c : Code) (W : World), Ix c W → W.heap[w.heap.size]? = some (.deferred (some [])) → c.wpIn F n P Q { a with defers := { target := .collected w.heap.size, args := #[] } :: a.defers } W) :
    (Code.rangeFunc g ps assign body).wpIn F n P Q a w := by
  refine wpIn_rangeFunc ?_
  intro fn hfn
  rw [hro]
  obtain ⟨k, hk⟩ : ∃ k, k = w.heap.size := ⟨_, rfl⟩
  let rec_ : LoopState → Option Code → Loop := fun st pe => { state := st, pending := pe, fn, tmps := a.tmps, params := ps, assign, body, defers := w.heap.size }
  obtain ⟨rec, hrec⟩ : ∃ rec : LoopState → Option Code → Loop, rec = rec_ := ⟨_, rfl⟩
  obtain ⟨W1, hW1⟩ : ∃ W1, W1 = (w.alloc (.deferred (some []))).alloc (.loop (rec .ready none)) := ⟨_, rfl⟩
  have hL1 : W1.heap[k + 1]? = some (.loop (rec .ready none)) := by
    have := World.alloc_heap_new (w.alloc (.deferred (some []))) (.loop (rec .ready none))
    rw [World.size_alloc] at this
    rw [hW1, hk]; exact this
  have hK1 : W1.heap[k]? = some (.deferred (some [])) := by
    rw [hW1, hk]
    exact (Below.heap_alloc _ _ _ (by simp)).trans (World.alloc_heap_new w _)
  let Rd_ : World → Prop := fun W => W.heap[k + 1]? = some (.loop (rec .ready none)) ∧ W.heap[k]? = some (.deferred (some []))
  let Out : World → Prop := fun W => ∃ c, Ix c W ∧ W.heap[k + 1]? = some (.loop (rec .done (some c))) ∧ W.heap[k]? = some (.deferred (some []))
  have two1 : ∀ {W : World}, Two k W1 W → Rd_ W := fun h => ⟨h.2.trans hL1, h.1.trans hK1⟩
  have two2 : ∀ {W : World}, Rd_ W → Two k W1 W := fun h => ⟨h.2.trans hK1.symm, h.1.trans hL1.symm⟩
  have hi := hiter (w.heap.size + 1) W1 (rec .ready none) Out rfl hW1
  rw [← hk] at hi hdone hstop hbody hY hG hIx hDn
  refine ⟨k + 1, [{ target := .collected k, args := #[] }], W1, { target := .fn (.func gf) lb, args := #[.func (.yield (k + 1)) #[] #[]] }, W1, gf,
    #[.func (.yield (k + 1)) #[] #[]] ++ lb, W1, ?_, ?_, ?_, ?_, fun _ => h1, ?_⟩
  · rw [hW1, hrec, hk]; exact run_enterLoop_outer _ _ _ _ _
  · simp only [resolve, hg]
    simp [go_sem]
  · intro f' hf'; simp [Target.leads] at hf'; subst hf'; exact hFg
  · simp [invoke, go_sem, eg]
  · refine (hi ?_).mono ?_
    · intro x W hy htw
      obtain ⟨hl, hd⟩ := two1 htw
      have hlt : k + 1 < W.heap.size := (Array.getElem?_eq_some_iff.1 hl).1
      have hyl := run_yield (P := P) (args := encs x) hl (by rw [hrec]; exact hps x)
      rw [hrec] at hyl
      have hla : (W.alloc (.cells (oc x) ot)).heap[k + 1]? = some (.loop (rec .ready none)) := (Below.heap_alloc _ _ _ hlt).trans hl
      have hlta : k + 1 < (W.alloc (.cells (oc x) ot)).heap.size := (Array.getElem?_eq_some_iff.1 hla).1
      refine ⟨fn, _, assign, body, hyl, roundIn_of_wpIn hfn (hassign _ x W _ ⟨_, run_beginRound hla (by rw [hrec]), ?_⟩)⟩
      have hb2 := hbody (k + 1) x W.heap.size _ (hY x _ (k + 1) _ (.loop { rec .ready none with state := .busy }) (hYa x W _ hy) (Nat.le_succ _) hla rfl) hlt ((World.putObj_heap_other (by omega)).trans (Bk.new W ot (oc x)))
      have hl2 : ((W.alloc (.cells (oc x) ot)).putObj (k + 1) (.loop { rec .ready none with state := .busy })).heap[k + 1]? = some (.loop { rec .ready none with state := .busy }) := World.putObj_heap_same hlta
      have hd2 : ((W.alloc (.cells (oc x) ot)).putObj (k + 1) (.loop { rec .ready none with state := .busy })).heap[k]? = some (.deferred (some [])) := (World.putObj_heap_other (by omega)).trans ((Below.heap_alloc _ _ _ (by omega)).trans hd)
      refine wpIn_mono hb2 ?_
      have fin : ∀ (jump : Option Code) (W3 : World), Two k ((W.alloc (.cells (oc x) ot)).putObj (k + 1) (.loop { rec .ready none with state := .busy })) W3 →
          (Instr.endRound (k + 1) jump).run P W3 = .ok (.bool jump.isNone) (W3.putObj (k + 1) (.loop (rec (if jump.isNone then .ready else .done) jump))) ∧ W3.heap[k + 1]? = some (.loop { rec .ready none with state := .busy }) ∧
          (W3.putObj (k + 1) (.loop (rec (if jump.isNone then .ready else .done) jump))).heap[k + 1]? = some (.loop (rec (if jump.isNone then .ready else .done) jump)) ∧
          (W3.putObj (k + 1) (.loop (rec (if jump.isNone then .ready else .done) jump))).heap[k]? = some (.deferred (some [])) := fun jump W3 h3 => by
        have hl3 := h3.2.trans hl2
        have hr := run_endRound (P := P) jump hl3
        refine ⟨?_, hl3, World.putObj_heap_same (Array.getElem?_eq_some_iff.1 hl3).1, (World.putObj_heap_other (by omega)).trans (h3.1.trans hd2)⟩
        rw [hrec] at hr ⊢
        exact hr
      rintro e a3 W3 hp
      cases e with
      | normal =>
        obtain ⟨q1, q2, q3, q4⟩ := fin none W3 hp.1
        exact ⟨_, _, q1, .inl ⟨rfl, hG x W3 (k + 1) _ _ hp.2 (Nat.le_succ _) q2 rfl, two2 ⟨q3, q4⟩⟩⟩
      | ret =>
        obtain ⟨q1, q2, q3, q4⟩ := fin (some .ret) W3 hp.1
        exact ⟨_, _, q1, .inr ⟨rfl, .ret, hIx _ W3 (k + 1) _ _ hp.2 (Nat.le_succ _) q2 rfl, q3, q4⟩⟩
      | exit id =>
        obtain ⟨q1, q2, q3, q4⟩ := fin (some (.exit id)) W3 hp.1
        exact ⟨_, _, q1, .inr ⟨rfl, .exit id, hIx _ W3 (k + 1) _ _ hp.2 (Nat.le_succ _) q2 rfl, q3, q4⟩⟩
      | goto t =>
        obtain ⟨q1, q2, q3, q4⟩ := fin (some (.goto t)) W3 hp.1
        exact ⟨_, _, q1, .inr ⟨rfl, .goto t, hIx _ W3 (k + 1) _ _ hp.2 (Nat.le_succ _) q2 rfl, q3, q4⟩⟩
      | panic ch => exact hp.elim
      | outgrown => exact hp.elim
    · rintro e W2 ⟨⟨v, rfl⟩, h | h⟩
      · obtain ⟨hd, htw⟩ := h
        obtain ⟨hl, hd2⟩ := two1 htw
        refine ⟨none, W2.putObj (k + 1) (.loop { rec .ready none with state := .exhausted }), ?_, hdone _ (hDn W2 (k + 1) _ _ hd (Nat.le_succ _) hl rfl) ((World.putObj_heap_other (by omega)).trans hd2)⟩
        have := run_endLoop (P := P) hl (by rw [hrec]; simp [rec_])
        rw [hrec] at this ⊢
        exact this
      · obtain ⟨c, hc, hl, hd2⟩ := h
        refine ⟨some c, W2.putObj (k + 1) (.loop { rec .done (some c) with state := .exhausted }), ?_, hstop c _ (hIx c W2 (k + 1) _ _ hc (Nat.le_succ _) hl rfl) ((World.putObj_heap_other (by omega)).trans hd2)⟩
        have := run_endLoop (P := P) hl (by rw [hrec]; simp [rec_])
        rw [hrec] at this ⊢
        exact this
end Go.Proofs.YtmopegpkoedgbaaGreatDoor
