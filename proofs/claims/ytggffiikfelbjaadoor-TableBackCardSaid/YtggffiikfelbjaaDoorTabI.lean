/- Walk: (*table.reader).lengths. -/
import Derived.Test.YtggffiikfelbjaaDoorTabH
import Derived.Deep.OwnRows
namespace Go.Proofs.YtggffiikfelbjaaDoor
open Go.RowKit

theorem info_intT : (Tryd.prog.info? 3).map (fun i => (i.zero, i.size, i.bytes)) = some (some (.int .i64 0), 1, 8) := by kernel_rfl

set_option maxRecDepth 100000 in
set_option maxHeartbeats 4000000 in
theorem tlengths_any (p : Nat) (s : ByteArray) (N a0 n : Nat) (q0 q1 : Addr) (w : World) (hr : Rdr w p s N a0) (hS : Sents w (ers q0) (ers q1)) (hN : N ≤ 1048576) (hs : s.size = (N + 7) / 8) (ha : a0 ≤ N) (hn : n ≤ 512) (hn1 : 1 ≤ n) (hp : 2 ≤ p) :
    Calls Tryd.prog 16 #[.pointer (some ⟨p, 0, none⟩), .int .i64 n] w (RLensP p s N n (readT s N a0 n) (ers q0) (ers q1) w) := by
  by_cases g4 : N < a0 + 4
  · have T1 := take_no p s N a0 4 (ers q0) (ers q1) w hr hS hN hs ha (by decide) g4
    have HT1 := hide T1
    have hx : readT s N a0 n = (5, [], []) := if_pos g4
    have HX := hide hx
    clear T1 hx hr hS hs
    go_enter Tryd.func16, Tryd.ntmps16
    go_wp2_with (go_at_call 25; refine (Calls.mono HT1.out ?_); rintro e w1 ⟨rfl, j, rfl⟩)
    go_ret2
    exact ⟨(Fr.refl _ _).drewN j, .inr (.inl (by rw [HX.out]; exact ⟨rfl, _, rfl⟩))⟩
  · have T1 := take_yes p s N a0 4 (ers q0) (ers q1) w hr hS hN hs (by omega) (by decide)
    obtain ⟨V, hV⟩ : ∃ V, V = getN s a0 4 := ⟨_, rfl⟩
    have hVb : V ≤ 15 := by
      have h1 := getN_lt s a0 4
      rw [hV]; omega
    rw [← hV] at T1
    obtain ⟨X, hX⟩ : ∃ X, X = lensT n true ((bitsL s N).drop (a0 + 4)) V := ⟨_, rfl⟩
    have hread : readT s N a0 n = if X.1 = 0 then (if okL (X.2.1.map Int.ofNat) then X else (7, [], [])) else X := by
      unfold readT; rw [if_neg g4, ← hV, ← hX]
    have HX := hide hX
    have HT1 := hide T1
    have HRd := hide hread
    have HSz := hide hs
    have sents : ∀ w1, Fr (fun g => g = p) w w1 → Sents w1 (ers q0) (ers q1) := fun w1 h => hS.fr h (fun g h1 h2 => by omega)
    have HSn := hide sents
    have hmk := run_make_row' (P := Tryd.prog) 24 3 (.int .i64 0) 8 Tryd.underlying24 info_intT rfl .i64 .i64 n (by omega) (by omega)
    have hpl : p < w.heap.size := hr.lt
    clear hV hX hread T1 hr hS hs sents
    go_enter Tryd.func16, Tryd.ntmps16
    go_wp2_with (go_at_call 25; refine (Calls.mono HT1.out ?_); rintro e w1 ⟨rfl, hr1, hf1⟩; have HR1 := hide hr1; have HF1 := hide hf1; have hsz := hf1.size; clear hr1 hf1)
    go_loopw [6, 24] (fun nw i wr => ∃ (a now : Nat) (done : List Nat), nw = .int .i64 now ∧ i = .int .i64 done.length ∧ done.length ≤ n ∧ a ≤ N ∧ now ≤ 15 ∧ Hid (Rdr wr p s N a) ∧ Hid (Bk wr w1.heap.size 3 (lensC done n)) ∧ Hid (Fr (fun g => g = p) w wr) ∧ Hid (restT done (lensT (n - done.length) (decide (done.length = 0)) ((bitsL s N).drop a) now) = X)) (fun _ i _ => n - (intOf i).toNat)
    case atStart =>
      refine ⟨a0 + 4, V, [], rfl, rfl, by simp, by omega, hVb, hide (Bk.alloc HR1.out _), hide (by rw [lensC_nil]; exact Bk.new _ _ _), hide (HF1.out.alloc _), hide ?_⟩
      rw [HX.out]; exact restT_nil
    case round =>
      clear HX HR1 HF1
      obtain ⟨a, now, done, rfl, rfl, hk, haN, hnow, HR, HB, HF, HX⟩ := hrel
      obtain ⟨k, hke⟩ : ∃ k, k = done.length := ⟨_, rfl⟩
      have HKe := hide hke
      rw [← hke] at hk HX ⊢
      clear hke
      have S := HSn.out _ HF.out
      have HS := hide S
      by_cases hlt : k < n
      · clear S
        obtain ⟨m, hm⟩ : ∃ m, n - k = m + 1 := ⟨n - k - 1, by omega⟩
        have hx := HX.out
        rw [hm] at hx
        have HX2 := hide hx
        have HM := hide hm
        clear hx hm HX
        obtain ⟨⟨K, l, r⟩, hy⟩ : ∃ y, nextT ((bitsL s N).drop a) now 0 = y := ⟨_, rfl⟩
        have HY := hide hy
        have hkd := nextT_kind _ ((bitsL s N).drop a) now 0 (Nat.le_refl _)
        rw [hy] at hkd
        clear hy
        rcases hkd with h0 | h5 | h7
        · simp only at h0
          subst h0
          have T2 := tnext_l p s N a now q0 q1 wr HR.out HS.out hN HSz.out haN hnow hp HY.out
          have HT2 := hide T2
          clear T2
          by_cases hk0 : k = 0
          · by_cases hln : l = now
            · have lb : ((l : Int) != (now : Int)) = false := by simp [hln]
              have kb : ((k : Int) == 0) = true := by simp [hk0]
              have hx := HX2.out
              rw [restT_on (by rw [HY.out]) (fun _ => by rw [HY.out]; exact hln), HY.out] at hx
              have HX3 := hide hx
              clear hx
              clear hk0 hln
              go_wp2_with (go_at_call 26; refine (Calls.mono HT2.out ?_); rintro e w2 ⟨rfl, hf2, hl, a', ha', hrr, hr2⟩; have HF2 := hide hf2; have HRR := hide hrr; have HR2 := hide hr2; have hs2 : w2.cell? ⟨1, 0, none⟩ = some (ers q1) := (HSn.out _ (HF.out.trans hf2 (fun _ h => .inl h))).2; have hb2 : Bk w2 w1.heap.size 3 (lensC done n) := HB.out.fr hf2 (by show ¬ (w1.heap.size = p); omega); have k0 : w2.cell? ⟨w1.heap.size, k, none⟩ = some (.int .i64 0) := (hb2.cell k).trans (by have := HKe.out; subst this; exact lensC_get hlt); have k1 := hb2.free k; have HB2 := hide hb2; clear hf2 hrr hr2 hb2)
              go_roundw
              case rel =>
                have hke := HKe.out
                subst hke
                refine ⟨a', l, done ++ [l], rfl, ?_, by simp; omega, ha', hl, hide (HR2.out.far (by show p ≠ w1.heap.size; omega) _), hide ?_, hide ((HF.out.trans HF2.out (fun _ h => .inl h)).setCell (.inr hsz) _), hide ?_⟩
                · exact v_int (by simp)
                · have := HB2.out.set_ done.length (.int .i64 l)
                  rwa [lensC_set hlt] at this
                · have := HX3.out
                  rw [HRR.out] at this
                  rw [show n - (done ++ [l]).length = m by have := HM.out; simp; omega, show decide ((done ++ [l]).length = 0) = false by simp]
                  exact this
              case measure => simp [intOf]; omega
            · have lb : ((l : Int) != (now : Int)) = true := by simp; omega
              have kb : ((k : Int) == 0) = true := by simp [hk0]
              have hx := HX2.out
              rw [show decide (k = 0) = true by simp [hk0], restT_first (by rw [HY.out]) (by rw [HY.out]; exact hln)] at hx
              have HX3 := hide hx
              clear hx hk0 hln
              go_wp2_with (go_at_call 26; refine (Calls.mono HT2.out ?_); rintro e w2 ⟨rfl, hf2, hl, a', ha', hrr, hr2⟩; have HF2 := hide hf2; have HRR := hide hrr; have HR2 := hide hr2; have hs2 : w2.cell? ⟨1, 0, none⟩ = some (ers q1) := (HSn.out _ (HF.out.trans hf2 (fun _ h => .inl h))).2; have hb2 : Bk w2 w1.heap.size 3 (lensC done n) := HB.out.fr hf2 (by show ¬ (w1.heap.size = p); omega); have k0 : w2.cell? ⟨w1.heap.size, k, none⟩ = some (.int .i64 0) := (hb2.cell k).trans (by have := HKe.out; subst this; exact lensC_get hlt); have k1 := hb2.free k; have HB2 := hide hb2; clear hf2 hrr hr2 hb2)
              go_ret2
              exact ⟨HF.out.trans HF2.out (fun _ h => .inl h), .inr (.inr (by rw [HRd.out, ← HX3.out]; exact ⟨rfl, _, rfl⟩))⟩
          · have kb : ((k : Int) == 0) = false := by simp; omega
            have hx := HX2.out
            rw [restT_on (by rw [HY.out]) (fun h => absurd (of_decide_eq_true h) hk0), HY.out] at hx
            have HX3 := hide hx
            clear hx
            clear hk0
            go_wp2_with (go_at_call 26; refine (Calls.mono HT2.out ?_); rintro e w2 ⟨rfl, hf2, hl, a', ha', hrr, hr2⟩; have HF2 := hide hf2; have HRR := hide hrr; have HR2 := hide hr2; have hs2 : w2.cell? ⟨1, 0, none⟩ = some (ers q1) := (HSn.out _ (HF.out.trans hf2 (fun _ h => .inl h))).2; have hb2 : Bk w2 w1.heap.size 3 (lensC done n) := HB.out.fr hf2 (by show ¬ (w1.heap.size = p); omega); have k0 : w2.cell? ⟨w1.heap.size, k, none⟩ = some (.int .i64 0) := (hb2.cell k).trans (by have := HKe.out; subst this; exact lensC_get hlt); have k1 := hb2.free k; have HB2 := hide hb2; clear hf2 hrr hr2 hb2)
            go_roundw
            case rel =>
              have hke := HKe.out
              subst hke
              refine ⟨a', l, done ++ [l], rfl, ?_, by simp; omega, ha', hl, hide (HR2.out.far (by show p ≠ w1.heap.size; omega) _), hide ?_, hide ((HF.out.trans HF2.out (fun _ h => .inl h)).setCell (.inr hsz) _), hide ?_⟩
              · exact v_int (by simp)
              · have := HB2.out.set_ done.length (.int .i64 l)
                rwa [lensC_set hlt] at this
              · have := HX3.out
                rw [HRR.out] at this
                rw [show n - (done ++ [l]).length = m by have := HM.out; simp; omega, show decide ((done ++ [l]).length = 0) = false by simp]
                exact this
            case measure => simp [intOf]; omega
        · simp only at h5
          subst h5
          have T2 := tnext_0 p s N a now q0 q1 wr HR.out HS.out hN HSz.out haN hnow hp (by rw [HY.out])
          have HT2 := hide T2
          have hx := HX2.out
          rw [restT_stop (k := 5) (by rw [HY.out]) (by decide)] at hx
          have HX3 := hide hx
          clear T2 hx
          go_wp2_with (go_at_call 26; refine (Calls.mono HT2.out ?_); rintro e w2 ⟨⟨v, rfl⟩, hf2⟩; have HF2 := hide hf2; clear hf2)
          go_ret2
          exact ⟨HF.out.trans HF2.out (fun _ h => .inl h), .inr (.inl (by rw [HRd.out, ← HX3.out]; exact ⟨rfl, _, rfl⟩))⟩
        · simp only at h7
          subst h7
          have T2 := tnext_1 p s N a now q0 q1 wr HR.out HS.out hN HSz.out haN hnow hp (by rw [HY.out])
          have HT2 := hide T2
          have hx := HX2.out
          rw [restT_stop (k := 7) (by rw [HY.out]) (by decide)] at hx
          have HX3 := hide hx
          clear T2 hx
          go_wp2_with (go_at_call 26; refine (Calls.mono HT2.out ?_); rintro e w2 ⟨⟨v, rfl⟩, hf2⟩; have HF2 := hide hf2; clear hf2)
          go_ret2
          exact ⟨HF.out.trans HF2.out (fun _ h => .inl h), .inr (.inr (by rw [HRd.out, ← HX3.out]; exact ⟨rfl, _, rfl⟩))⟩
      · obtain rfl : k = n := by omega
        have hx := HX.out
        rw [Nat.sub_self, lensT] at hx
        have hx2 : X = (0, done, (bitsL s N).drop a) := by rw [← hx]; unfold restT; rw [if_pos rfl]; simp
        have hb := HB.out
        rw [lensC_full HKe.out.symm] at hb
        have ck := tcanon w1.heap.size k k done wr hb HKe.out.symm hn
        have HCk := hide ck
        have HB2 := hide hb
        have hs2 : wr.cell? ⟨1, 0, none⟩ = some (ers q1) := S.2
        by_cases hok : okL (done.map Int.ofNat) = true
        · have hread := HRd.out
          rw [hx2] at hread
          simp only [hok, if_true] at hread
          have HR3 := hide hread
          have ow : okW (done.map Int.ofNat) = 0 := by simp [okW, hok]
          rw [ow] at ck
          have HCk := hide ck
          clear ck hb hok hread ow hx hx2 S hs2 HX
          go_wp2_with (go_at_call 11; refine (Calls.mono HCk.out ?_); rintro e w2 ⟨rfl, hww⟩; replace hww := hww.symm; subst hww)
          go_ret2
          rw [HR3.out]
          exact ⟨HF.out, .inl ⟨rfl, a, _, w1.heap.size, haN, rfl, rfl, hsz, HB2.out, HR.out⟩⟩
        · have hread := HRd.out
          rw [hx2] at hread
          simp only [hok, if_true] at hread
          have HR3 := hide hread
          have ow : okW (done.map Int.ofNat) = 7 := by simp [okW, hok]
          rw [ow] at ck
          have HCk := hide ck
          clear ck hb hok hread ow hx hx2 S HX
          go_wp2_with (go_at_call 11; refine (Calls.mono HCk.out ?_); rintro e w2 ⟨rfl, hww⟩; replace hww := hww.symm; subst hww)
          go_region
          go_wp2_with fail
          go_ret2
          rw [HR3.out]
          exact ⟨HF.out.drewN _, .inr (.inr ⟨rfl, _, rfl⟩)⟩
#print axioms tlengths_any
end Go.Proofs.YtggffiikfelbjaaDoor
