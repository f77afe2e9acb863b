/- Walk: pack.leaves. -/
import Derived.Test.YtggffiikfelbjaaOrdPlain
import Derived.Test.YtggffiikfelbjaaOf
namespace Go.Proofs.Ytggffiikfelbjaa
open Go.RowKit

/-- The sort of nothing. -/
theorem sortNil_any (F : Value) (w : World) : Calls Try.prog 65 #[.slice none 0 0, F] w fun e w' => e = .returned (.tuple #[]) ∧ w' = w := by
  have ins : ∀ W, Calls Try.prog 73 #[.slice none 0 0, .int .i64 0, .int .i64 0, F] W fun e w' => e = .returned (.tuple #[]) ∧ w' = W := by
    intro W
    go_enter Try.func73, Try.ntmps73
    go_wp2_with fail
    refine wp_loop_rounds 1 ?_
    rw [rounds_succ]
    go_wp2_with fail
    go_end0
    exact ⟨rfl, rfl⟩
  have HI := hide ins
  clear ins
  have st : ∀ W, Calls Try.prog 70 #[.slice none 0 0, .int .i64 0, F] W fun e w' => e = .returned (.tuple #[]) ∧ w' = W := by
    intro W
    go_enter Try.func70, Try.ntmps70
    go_wp2_with fail
    refine wp_loop_rounds 1 ?_
    rw [rounds_succ]
    go_wp2_with (go_at_call 73; refine (Calls.mono (HI.out _) ?_); rintro e w1 ⟨rfl, hww⟩; replace hww := hww.symm; subst hww)
    refine wp_loop_rounds 1 ?_
    rw [rounds_succ]
    go_wp2_with fail
    go_end0
    exact ⟨rfl, rfl⟩
  have HS := hide st
  clear st
  go_enter Try.func65, Try.ntmps65
  go_wp2_with (go_at_call 70; refine (Calls.mono (HS.out _) ?_); rintro e w1 ⟨rfl, hww⟩; replace hww := hww.symm; subst hww)
  go_end0
  exact ⟨rfl, rfl⟩
/-- What is owned, as a row to be sorted. -/
theorem own_dat {w : World} {base n : Nat} {v : Value} {xs : List Nat} (h : w.ownsRow base 3 1 v n (xs.map fun (x : Nat) => Value.int .i64 x)) :
    (v = .slice none 0 0 ∧ xs = []) ∨ ∃ g c, v = .slice (some ⟨g, 0, none⟩) xs.length c ∧ base ≤ g ∧ Dat w g xs := by
  have h1 := h.1
  rcases h.2 with ⟨hv, hn⟩ | ⟨g, cap, cur, hv, hb, hg, hc⟩
  · refine .inl ⟨hv, List.eq_nil_of_length_eq_zero ?_⟩
    simpa [hn] using h1
  · have hn : n = xs.length := by simpa using h1.symm
    subst hn
    refine .inr ⟨g, cap, hv, hb, cur, hg, fun i x hx => ?_⟩
    have := h.cells (g := g) (by rw [hv]; rfl) i (.int .i64 x) (by simp [hx])
    rw [Addr.add_lit, Nat.zero_add] at this
    exact (Bk.cell (w := w) hg i).symm.trans this

set_option maxRecDepth 100000 in
set_option maxHeartbeats 4000000 in
theorem leaves_any (A : Option Addr) (ws : List Int) (c : Nat) (w : World) (h : Rd w w.heap.size A (ws.map (.int .u64))) (hlen : ws.length ≤ 512) (hw0 : ∀ x ∈ ws, 0 ≤ x) :
    Calls Try.prog 51 #[.slice A ws.length c] w fun e w' => ∃ A' c', e = .returned (.slice A' (ordL ws).length c') ∧ Rd w' w'.heap.size A' ((ordL ws).map fun (x : Nat) => Value.int .i64 x) ∧ (∀ a, A' = some a → w.heap.size ≤ a.block) ∧ Below w.heap.size w w' := by
  obtain ⟨i0, hi, hz0, hz1, hz2⟩ := info_parts info_int
  have H := hide h
  clear h
  go_enter Try.func51, Try.ntmps51
  go_wp2_with fail
  go_loopw [3, 8] (fun v i wr => ∃ k : Nat, k ≤ ws.length ∧ i = .int .i64 k ∧ Hid (wr.ownsRow (w.heap.size + 1) 3 1 v (symK ws k).length ((symK ws k).map fun (x : Nat) => Value.int .i64 x)) ∧ Bk wr w.heap.size 25 #[.slice A ws.length c] ∧ Below w.heap.size w wr) (fun _ i _ => ws.length - (intOf i).toNat)
  case atStart => exact ⟨0, by omega, rfl, World.ownsRow_nil _ _ _ _, Bk.new _ _ _, by go_grown⟩
  case round =>
    obtain ⟨k, hk, rfl, hown, hbk, hbe⟩ := hrel
    have hz := hbk.lt
    by_cases hlt : k < ws.length
    · obtain ⟨b, o, x, hAx, hb, hx, hc0⟩ := H.out.int hlt
      subst hAx
      have hc := (hbe.cell (p := ⟨b, o + k, none⟩) hb).trans hc0
      have hx2 : ws.getD k 0 = x := by rw [List.getD_eq_getElem?_getD, hx]; rfl
      have HX := hide hx2
      have HX0 := hide (hw0 x (List.mem_of_getElem? hx))
      have hsl := symK_length ws k
      clear hx hc0 hx2
      by_cases hp : 0 < x
      · have dp : decide (0 < x) = true := decide_eq_true hp
        go_wp2_with (at_builtin; refine wpList_append_own _ rfl (.tmp 15) (.tmp 17) 22 rfl (w.heap.size + 1) 3 i0 (.int .i64 0) 1 8 Try.underlying22 hi hz0 hz1 hz2 rfl (by decide) _ _ _ rfl (hown.out.alloc _) ⟨wr.heap.size, 0, none⟩ 1 1 [.int .i64 k] rfl rfl (cell_one_new _ _ _) (by intro u hu; simp at hu; subst hu; rfl) (by unfold maxLen; omega) (by omega) (by simp; omega) ?_; intro v' w2 hown2 hgr2 _)
        have hbe2 := ((hbe.alloc (by omega) (.cells #[.int .i64 k] 3))).grown hgr2 (by simp; omega) (fun g hg => by have := ((hown.out.alloc (.cells #[.int .i64 k] 3)).lt g hg).1; omega)
        have hne := own_ne (hown.out.alloc (.cells #[.int .i64 k] 3)) (hbk.alloc (.cells #[.int .i64 k] 3)) (by decide)
        have hbk2 := (hbk.alloc (.cells #[.int .i64 k] 3)).grown hgr2 hne
        have hst : symK ws (k + 1) = symK ws k ++ [k] := by rw [symK_step, HX.out, if_pos hp]
        go_roundw
        case rel => exact ⟨k + 1, by omega, by go_num, hide (by rw [hst, List.map_append, List.length_append]; exact hown2), hbk2, hbe2⟩
        case measure => simp [intOf]; omega
      · have dp : decide (0 < x) = false := decide_eq_false hp
        have hst : symK ws (k + 1) = symK ws k := by rw [symK_step, HX.out, if_neg hp, List.append_nil]
        have HSt := hide hst
        clear hst
        go_wp2_with fail
        go_roundw
        case rel => exact ⟨k + 1, by omega, by go_num, hide (by rw [HSt.out]; exact hown.out), hbk, hbe⟩
        case measure => simp [intOf]; omega
    · obtain rfl : k = ws.length := by omega
      have hcell := hbk.cell 0
      simp at hcell
      rcases own_dat hown.out with ⟨rfl, hnil⟩ | ⟨g, c', rfl, hg, hd⟩
      · have ho : ordL ws = [] := List.eq_nil_of_length_eq_zero (by rw [(ordL_perm ws).length_eq]; unfold symL; rw [hnil]; rfl)
        have HO := hide ho
        have sn := fun (F : Value) => sortNil_any F wr
        have HSn := hide sn
        clear sn ho hnil hown
        go_wp2_with (go_at_call 65; refine (Calls.mono (HSn.out _) ?_); rintro e w1 ⟨rfl, hww⟩; replace hww := hww.symm; subst hww)
        go_ret
        exact ⟨none, 0, by rw [HO.out]; rfl, by rw [HO.out]; exact Rd.nil_, (fun a ha => by cases ha), hbe⟩
      · have cmpat : CmpAt g w.heap.size ws wr := by
          intro W hW x y hx hy
          have hcW : W.cell? ⟨w.heap.size, 0, none⟩ = some (.slice A ws.length c) := hW.cell (by show ¬ (w.heap.size = g); omega) hcell
          have hrW : Rd W W.heap.size A (ws.map (.int .u64)) := ((H.out.below hbe).fr hW (fun k hk => by show ¬ (k = g); omega)).more (Nat.le_trans hbe.size hW.size)
          exact lcmp_any w.heap.size A ws c x y W hcW hrW hx hy
        have st := sortStable_any g w.heap.size c' _ ws (symK ws ws.length) wr hd rfl (by have := symK_length ws ws.length; omega) (symK_sorted _ _) (fun x hx => (symK_lt hx).1) cmpat
        have HSt := hide st
        have hgl := hd.lt
        obtain ⟨N, hN⟩ : ∃ N, N = (symK ws ws.length).length := ⟨_, rfl⟩
        rw [← hN] at HSt ⊢
        have HN := hide hN
        clear st cmpat hown hd hN
        go_wp2_with (go_at_call 65; refine (Calls.mono HSt.out ?_); rintro e9 w9 ⟨Z9, rfl, hp9, hs9, hd9, hf9⟩; have HP9 := hide hp9; have HS9 := hide hs9; have HD9 := hide hd9; have HF9 := hide hf9; clear hp9 hs9 hd9 hf9)
        have hZ : Z9 = ordL ws := order_one (HP9.out.trans (ordL_perm ws).symm) HS9.out (ordL_sorted ws)
        have hL : N = (ordL ws).length := by rw [HN.out, (ordL_perm ws).length_eq]; rfl
        subst hL
        go_ret
        refine ⟨_, _, rfl, ?_, (fun a ha => by cases ha; exact Nat.le_trans (Nat.le_succ _) hg), hbe.trans (HF9.out.toBelowB (by rintro k rfl; omega) hbe.size)⟩
        have hd9 := HD9.out
        simp only [List.nil_append, List.append_nil] at hd9
        rw [hZ] at hd9
        intro i u hu
        rw [List.getElem?_map] at hu
        obtain ⟨x, hx, rfl⟩ := Option.map_eq_some_iff.1 hu
        exact ⟨g, 0, rfl, hd9.lt, by rw [Nat.zero_add]; exact hd9.cell hx⟩
#print axioms leaves_any
end Go.Proofs.Ytggffiikfelbjaa
