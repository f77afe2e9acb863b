/- Walks: bits.Writer.Copy, bits.Cut; the contracts of get, At, Add over integers. -/
import Derived.Test.YtggffiikfelbjaaWriterB
namespace Go.Proofs.Ytggffiikfelbjaa
open Go.RowKit

theorem get_i (s : ByteArray) (m a wd : Int) (w : World) (h0 : 0 ≤ a) (h1 : 0 ≤ wd) (hw : wd ≤ 64) (ha : a + wd ≤ 8 * s.size) (hs : s.size ≤ 1000000000) :
    Calls Try.prog 60 #[bstr s m, .int .i64 a, .int .i64 wd] w fun e w' => e = .returned (.int .u64 (getN s a.toNat wd.toNat)) ∧ Below w.heap.size w w' := by
  obtain ⟨a, rfl⟩ := Int.eq_ofNat_of_zero_le h0
  obtain ⟨wd, rfl⟩ := Int.eq_ofNat_of_zero_le h1
  exact get_any s m a wd w (by omega) (by omega) hs
theorem at_i (s : ByteArray) (m a wd : Int) (w : World) (h0 : 0 ≤ a) (h1 : 0 ≤ wd) (hw : wd ≤ 64) (ha : a + wd ≤ 8 * s.size) (hs : s.size ≤ 1000000000) :
    Calls Try.prog 48 #[bstr s m, .int .i64 a, .int .i64 wd] w fun e w' => e = .returned (.int .u64 (getN s a.toNat wd.toNat)) ∧ Below w.heap.size w w' := by
  obtain ⟨a, rfl⟩ := Int.eq_ofNat_of_zero_le h0
  obtain ⟨wd, rfl⟩ := Int.eq_ofNat_of_zero_le h1
  exact at_any s m a wd w (by omega) (by omega) hs
theorem add_i (p : Nat) (row : Option Nat) (l : List Bool) (v wd : Int) (w : World) (h0 : 0 ≤ v) (h1 : 0 ≤ wd) (hv : v < 18446744073709551616) (hw : wd ≤ 64) (h : Wr w p row l) (hl : l.length + wd.toNat ≤ 1000000000000) :
    Calls Try.prog 40 #[.pointer (some ⟨p, 0, none⟩), .int .u64 v, .int .i64 wd] w fun e w' => e = .returned (.tuple #[]) ∧ ∃ row', Wr w' p row' (l ++ natBits v.toNat wd.toNat) ∧ rowNew w row row' ∧ Fr (wS p row) w w' := by
  obtain ⟨v, rfl⟩ := Int.eq_ofNat_of_zero_le h0
  obtain ⟨wd, rfl⟩ := Int.eq_ofNat_of_zero_le h1
  exact add_any p row l v wd w (by omega) (by omega) h hl

/-- A block of another type is none of a Writer's. -/
theorem Wr.apart {w : World} {p g : Nat} {row : Option Nat} {l : List Bool} {t : TypeId} {cs : Array Value} (h : Wr w p row l) (hb : Bk w g t cs) (h5 : 5 ≠ t) (h67 : 67 ≠ t) : ¬ wS p row g := by
  obtain ⟨v, out, last, n, hk, ho, hrow, r⟩ := h
  rintro (rfl | hg)
  · exact Bk.ne_ hk hb h67 rfl
  · exact own_ne ho hb h5 (by rw [hrow, hg])

theorem bits_part (s : ByteArray) {k K : Nat} : bitsL s k ++ natBits (getN s k K) K = bitsL s (k + K) := by
  rw [natBits_getN]
  unfold bitsL
  rw [List.range_add, List.map_append, List.map_map]; rfl

set_option maxRecDepth 100000 in
set_option maxHeartbeats 1000000 in
theorem copy_any (p : Nat) (row : Option Nat) (l : List Bool) (s : ByteArray) (n : Nat) (w : World) (h : Wr w p row l) (hs : s.size = (n + 7) / 8) (hn : n ≤ 1048576) (hl : l.length ≤ 100000000000) :
    Calls Try.prog 38 #[.pointer (some ⟨p, 0, none⟩), bstr s n] w fun e w' => e = .returned (.tuple #[]) ∧ ∃ row', Wr w' p row' (l ++ bitsL s n) ∧ rowNew w row row' ∧ Fr (wS p row) w w' := by
  have hsz : s.size ≤ 131072 := by omega
  have HS := hide hs
  have HW := hide h
  clear hs h
  go_enter Try.func38, Try.ntmps38
  go_wp2_with fail
  go_loopw [5] (fun a wr => ∃ k row1, (k % 8 = 0 ∧ k ≤ n + 7) ∧ a = .int .i64 (k : Nat) ∧ Wr wr p row1 (l ++ bitsL s (min k n)) ∧ rowNew w row row1 ∧ Fr (wS p row) w wr ∧
    Bk wr w.heap.size 35 #[.string s, .int .i64 n] ∧ Bk wr (w.heap.size + 1) 93 #[.string s, .int .i64 n]) (fun a _ => n + 8 - (intOf a).toNat)
  case atStart => exact ⟨0, row, ⟨rfl, by omega⟩, rfl, by rw [show bitsL s (min 0 n) = [] by simp [bitsL], List.append_nil]; exact HW.out.below (by go_grown), .inl rfl, Fr.below (by go_grown) _, (Bk.new _ _ _).alloc _, by have := Bk.new (w.alloc (.cells #[.string s, .int .i64 n] 35)) 93 #[.string s, .int .i64 n]; rwa [show (w.alloc (.cells #[.string s, .int .i64 n] 35)).heap.size = w.heap.size + 1 by simp] at this⟩
  case round =>
    obtain ⟨k, row1, ⟨hk8, hkn⟩, rfl, hwr, hrn, hfr, hb0, hb1⟩ := hrel
    have c1 := hb0.cell 1
    have d0 := hb1.cell 0
    have d1 := hb1.cell 1
    simp at c1 d0 d1
    have HK := hide hk8
    clear hk8
    have hlt : ∀ K : Int, 0 ≤ K → K ≤ 8 → (k : Int) + K ≤ n → (k : Int) + K ≤ 8 * s.size := by have := HS.out; omega
    by_cases hk : k < n
    · go_upto_region 5 with (fail)
      go_cut [6] (fun s6 wx => ∃ K : Nat, K ≤ 8 ∧ K ≤ n - k ∧ (K = 8 ∨ K = n - k) ∧ s6 = .int .i64 K ∧ wr = wx)
      case first =>
        by_cases g : n - k < 8
        · go_wp2
          all_goals go_meet
          all_goals first
            | exact ⟨n - k, by omega, by omega, .inr rfl, by go_num, rfl⟩
            | exact ⟨8, by omega, by omega, .inl rfl, by go_num, rfl⟩
        · go_wp2
          all_goals go_meet
          all_goals first
            | exact ⟨n - k, by omega, by omega, .inr rfl, by go_num, rfl⟩
            | exact ⟨8, by omega, by omega, .inl rfl, by go_num, rfl⟩
      case rest =>
        obtain ⟨K, hK8, hKn, hKe, rfl, rfl⟩ := hcut
        have hlt' := hlt K (by omega) (by omega) (by omega)
        clear hlt
        have HKe := hide hKe
        clear hKe
        go_wp2_with fail
        refine (get_i s n k K _ (by omega) (by omega) (by omega) hlt' (by omega)).mono ?_
        rintro e w1 ⟨rfl, hbe⟩
        rw [Int.toNat_natCast, Int.toNat_natCast]
        have hg := getN_lt s k K
        have hg2 : 2 ^ K ≤ 2 ^ 8 := Nat.pow_le_pow_right (by omega) hK8
        go_wp2_with fail
        refine (add_i p row1 _ _ _ _ (by omega) (by omega) (by omega) (by omega) (hwr.below hbe) (by simp; omega)).mono ?_
        rintro e w2 ⟨rfl, row2, hwr2, hrn2, hfr2⟩
        rw [Int.toNat_natCast, Int.toNat_natCast] at hwr2
        go_wp2_with fail
        go_roundw
        case rel =>
          have hb0' := hb0.below hbe hb0.lt
          have hb1' := hb1.below hbe hb1.lt
          have hap := hwr.below hbe
          refine ⟨k + 8, row2, ⟨by have := HK.out; omega, by omega⟩, by go_num, ?_, hrn.step (hrn2) (Nat.le_trans hfr.size hbe.size), ?_, hb0'.fr hfr2 (hap.apart hb0' (by decide) (by decide)), hb1'.fr hfr2 (hap.apart hb1' (by decide) (by decide))⟩
          · rw [List.append_assoc, Nat.min_eq_left (by omega), bits_part s] at hwr2
            rw [show min (k + 8) n = k + K by have := HKe.out; omega]; exact hwr2
          · exact (hfr.trans (Fr.below hbe (fun _ => False)) (fun g hg => hg.elim)).trans hfr2 (fun g hg => by
              rcases hg with rfl | hg
              · exact .inl (.inl rfl)
              · exact wS_new hrn g hg)
        case measure => simp [intOf]; omega
    · go_wp2_with fail
      go_end0
      exact ⟨rfl, row1, by rw [Nat.min_eq_right (by omega)] at hwr; exact hwr, hrn, hfr⟩

/-- What bits.Cut answers. -/
def cutW (s : ByteArray) (n a c : Int) : Int := if rightB s n then (if a < 0 ∨ c < 0 ∨ n < a then 1 else if n - a < c then 5 else 0) else 2

def CutP (s : ByteArray) (n a c : Int) (w : World) (e : Ending) (w' : World) : Prop := ∃ s' n', e = .returned (.tuple #[bstr s' n', .int .i64 (cutW s n a c)]) ∧
  (cutW s n a c = 0 → Bs s' n' (((bitsL s n.toNat).drop a.toNat).take c.toNat)) ∧ (cutW s n a c ≠ 0 → s' = ⟨#[]⟩ ∧ n' = 0) ∧ Below w.heap.size w w'
theorem CutP.no {s : ByteArray} {n a c : Int} {w w' : World} {k : Int} (h : cutW s n a c = k) (hk : k ≠ 0) (hb : Below w.heap.size w w') : CutP s n a c w (.returned (.tuple #[bstr ⟨#[]⟩ 0, .int .i64 k])) w' :=
  ⟨_, _, by rw [h], fun h0 => absurd (h.symm.trans h0) hk, fun _ => ⟨rfl, rfl⟩, hb⟩
theorem CutP.yes {s s' : ByteArray} {n a c : Int} {n' : Nat} {w w' : World} (h : cutW s n a c = 0) (hbs : Bs s' n' (((bitsL s n.toNat).drop a.toNat).take c.toNat)) (hb : Below w.heap.size w w') : CutP s n a c w (.returned (.tuple #[bstr s' n', .int .i64 0])) w' :=
  ⟨_, _, by rw [h], fun _ => hbs, fun h0 => absurd h h0, hb⟩
theorem seg_part {α : Type} (l : List α) (a k K : Nat) : (l.drop a).take k ++ ((l.drop (a + k)).take K) = (l.drop a).take (k + K) := by
  rw [List.take_add, List.drop_drop]

set_option maxRecDepth 100000 in
set_option maxHeartbeats 4000000 in
theorem cut_any (s : ByteArray) (n a c : Int) (w : World) (hn : I64 n) (ha : I64 a) (hc : I64 c) (hs : s.size ≤ 9223372036854775807) :
    Calls Try.prog 24 #[bstr s n, .int .i64 a, .int .i64 c] w (CutP s n a c w) := by
  by_cases hr : rightB s n = true
  · have hR := rightB_n hr
    have hz : chkB s n = 0 := by simp [chkB, hr]
    by_cases h1 : a < 0 ∨ c < 0 ∨ n < a
    · have hcut : cutW s n a c = 1 := by simp [cutW, hr, h1]
      have HC := hide hcut
      obtain ⟨a1, a2⟩ := ha
      obtain ⟨c1, c2⟩ := hc
      obtain ⟨n1, n2⟩ := hn
      clear hR hcut hr
      go_enter Try.func24, Try.ntmps24
      go_wp2_with (go_at_call 37; refine (check_any s n _ ⟨n1, n2⟩ hs).mono ?_; rintro e w1 ⟨rfl, hb1⟩; rw [hz]; obtain ⟨hc1, hf1⟩ := bcell hb1)
      all_goals
        have kr : Bk w1 (w.heap.size + 1) 35 #[.string ⟨#[]⟩, .int .i64 0] := (Bk.new1 w _ _ _).keep hb1
        obtain ⟨q0, q1⟩ := two_cells ((kr.set_ 0 (.string ⟨#[]⟩)).set_ 1 (.int .i64 0))
        have hbe1 : Below w.heap.size w w1 := (((Below.refl _ _).alloc (Nat.le_refl _) _).alloc (by simp) _).trans (hb1.mono (by simp; omega))
        first
          | (exfalso; omega)
          | (refine bodyPost_ret (v := .tuple #[bstr ⟨#[]⟩ 0, .int .i64 1]) (by simp [results, Try.results24, go_sem, q0, q1]) rfl ?_; exact CutP.no HC.out (by decide) ((hbe1.setCell (by simp) _).setCell (by simp) _))
    · by_cases h2 : n - a < c
      · have hcut : cutW s n a c = 5 := by simp [cutW, hr, h1, h2]
        have HC := hide hcut
        obtain ⟨a1, a2⟩ := ha
        obtain ⟨c1, c2⟩ := hc
        obtain ⟨n1, n2⟩ := hn
        have g1 : 0 ≤ a := by omega
        have g2 : 0 ≤ c := by omega
        have g3 : a ≤ n := by omega
        clear hR hcut hr h1
        go_enter Try.func24, Try.ntmps24
        go_wp2_with (go_at_call 37; refine (check_any s n _ ⟨n1, n2⟩ hs).mono ?_; rintro e w1 ⟨rfl, hb1⟩; rw [hz]; obtain ⟨hc1, hf1⟩ := bcell hb1)
        all_goals
          have kr : Bk w1 (w.heap.size + 1) 35 #[.string ⟨#[]⟩, .int .i64 0] := (Bk.new1 w _ _ _).keep hb1
          obtain ⟨q0, q1⟩ := two_cells ((kr.set_ 0 (.string ⟨#[]⟩)).set_ 1 (.int .i64 0))
          have hbe1 : Below w.heap.size w w1 := (((Below.refl _ _).alloc (Nat.le_refl _) _).alloc (by simp) _).trans (hb1.mono (by simp; omega))
          first
            | (exfalso; omega)
            | (refine bodyPost_ret (v := .tuple #[bstr ⟨#[]⟩ 0, .int .i64 5]) (by simp [results, Try.results24, go_sem, q0, q1]) rfl ?_; exact CutP.no HC.out (by decide) ((hbe1.setCell (by simp) _).setCell (by simp) _))
      · have hcut : cutW s n a c = 0 := by simp [cutW, hr, h1, h2]
        have HC := hide hcut
        have HR := hide hR
        have g5 : 0 ≤ n ∧ n ≤ 1048576 := ⟨hR.1, hR.2.1⟩
        obtain ⟨a, rfl⟩ := Int.eq_ofNat_of_zero_le (show 0 ≤ a by omega)
        obtain ⟨c, rfl⟩ := Int.eq_ofNat_of_zero_le (show 0 ≤ c by omega)
        obtain ⟨n, rfl⟩ := Int.eq_ofNat_of_zero_le g5.1
        have g3 : a ≤ n := by omega
        have g4 : c ≤ n - a := by omega
        have g6 : n ≤ 1048576 := by omega
        have b1 : decide ((a : Int) < 0) = false := decide_eq_false (by omega)
        have b2 : decide ((c : Int) < 0) = false := decide_eq_false (by omega)
        have b3 : decide (n < a) = false := decide_eq_false (by omega)
        have b4 : decide ((n : Int) - (a : Int) < (c : Int)) = false := decide_eq_false (by omega)
        clear h1 h2 hcut hR g5
        go_enter Try.func24, Try.ntmps24
        go_wp2_with (go_at_call 37; refine (check_any s n _ hn hs).mono ?_; rintro e w1 ⟨rfl, hb1⟩; rw [hz]; obtain ⟨hc1, hf1⟩ := bcell hb1)
        have hsz1 : w.heap.size + 1 < w1.heap.size := by have := hb1.size; simp at this; omega
        have kb : Bk w1 w.heap.size 35 #[.string s, .int .i64 n] := ((Bk.new w _ _).alloc _).keep hb1
        have kr : Bk w1 (w.heap.size + 1) 35 #[.string ⟨#[]⟩, .int .i64 0] := (Bk.new1 w _ _ _).keep hb1
        have hbe1 : Below w.heap.size w w1 := (((Below.refl _ _).alloc (Nat.le_refl _) _).alloc (by simp) _).trans (hb1.mono (by simp; omega))
        clear hb1 hc1 hf1
        go_loopw [10] (fun x wr => ∃ k row1, (k % 8 = 0 ∧ k ≤ c + 7) ∧ x = .int .i64 ((a + k : Nat) : Int) ∧ Wr wr w1.heap.size row1 (((bitsL s n).drop a).take (min k c)) ∧ (∀ g, row1 = some g → w1.heap.size ≤ g) ∧ Below w1.heap.size w1 wr) (fun x _ => a + c + 8 - (intOf x).toNat)
        case atStart => exact ⟨0, none, ⟨rfl, by omega⟩, by simp, by simpa using Wr.new w1, by simp, by go_grown⟩
        case round =>
          obtain ⟨k, row1, ⟨hk8, hkn⟩, rfl, hwr, hrow, hbe⟩ := hrel
          obtain ⟨d0, d1⟩ := two_cells (kb.below hbe (by omega))
          have HK := hide hk8
          clear hk8
          have hlt : ∀ K : Int, 0 ≤ K → (k : Int) + K ≤ c → ((a + k : Nat) : Int) + K ≤ 8 * s.size := by have := HR.out; omega
          by_cases hk : k < c
          · go_upto_region 12 with (fail)
            go_cut [11] (fun s6 wx => ∃ K : Nat, K ≤ 8 ∧ K ≤ c - k ∧ (K = 8 ∨ K = c - k) ∧ s6 = .int .i64 K ∧ wr = wx)
            case first =>
              by_cases g : c - k < 8
              · go_wp2
                all_goals go_meet
                all_goals first
                  | exact ⟨c - k, by omega, by omega, .inr rfl, by go_num, rfl⟩
                  | exact ⟨8, by omega, by omega, .inl rfl, by go_num, rfl⟩
              · go_wp2
                all_goals go_meet
                all_goals first
                  | exact ⟨c - k, by omega, by omega, .inr rfl, by go_num, rfl⟩
                  | exact ⟨8, by omega, by omega, .inl rfl, by go_num, rfl⟩
            case rest =>
              obtain ⟨K, hK8, hKn, hKe, rfl, rfl⟩ := hcut
              have hlt' := hlt K (by omega) (by omega)
              clear hlt
              have HKe := hide hKe
              clear hKe
              go_wp2_with fail
              refine (at_i s n _ K _ (by omega) (by omega) (by omega) hlt' (by have := HR.out; omega)).mono ?_
              rintro e w3 ⟨rfl, hbe3⟩
              rw [Int.toNat_natCast, Int.toNat_natCast]
              have hg := getN_lt s (a + k) K
              have hg2 : 2 ^ K ≤ 2 ^ 8 := Nat.pow_le_pow_right (by omega) hK8
              go_wp2_with fail
              refine (add_i w1.heap.size row1 _ _ _ _ (by omega) (by omega) (by omega) (by omega) (hwr.below hbe3) (by simp; omega)).mono ?_
              rintro e w4 ⟨rfl, row2, hwr2, hrn2, hfr2⟩
              rw [Int.toNat_natCast, Int.toNat_natCast] at hwr2
              go_wp2_with fail
              go_roundw
              case rel =>
                have hs3 := hbe3.size
                have hsr := hbe.size
                refine ⟨k + 8, row2, ⟨by have := HK.out; omega, by omega⟩, by go_num, ?_, ?_, ?_⟩
                · rw [natBits_getN, Nat.min_eq_left (by omega), ← bits_seg s (n := n) (by omega), seg_part] at hwr2
                  rw [show min (k + 8) c = k + K by have := HKe.out; omega]; exact hwr2
                · rintro g rfl
                  rcases hrn2 with h | ⟨g', h, hg'⟩
                  · exact hrow g h.symm
                  · simp at h; omega
                · exact (hbe.trans (hbe3.mono hsr)).trans (hfr2.toBelowB (fun g hg => by rcases hg with rfl | hg; exact Nat.le_refl _; exact hrow g hg) (by omega))
              case measure => simp [intOf]; omega
          · have hmk : min k c = c := by omega
            rw [hmk] at hwr
            obtain ⟨L, hL⟩ : ∃ L, L = ((bitsL s n).drop a).take c := ⟨_, rfl⟩
            rw [← hL] at hwr
            have hlL : L.length = c := by rw [hL]; simp; omega
            have cb := wbits_any w1.heap.size row1 L wr hwr (by omega)
            rw [hlL] at cb
            have HL := hide hL
            clear hL hlL hmk
            go_wp2_with fail
            refine cb.mono ?_
            rintro e w5 ⟨S, rfl, hbs, hb5⟩
            have kr5 := (kr.below hbe (by omega)).keep hb5
            obtain ⟨q0, q1⟩ := two_cells kr5
            have z0 := kr5.free 0
            have z1 := kr5.free 1
            go_wp2_with fail
            obtain ⟨q2, q3⟩ := two_cells ((kr5.set_ 0 (.string S)).set_ 1 (.int .i64 c))
            refine bodyPost_ret (v := .tuple #[bstr S c, .int .i64 0]) (by simp [results, Try.results24, go_sem, q2, q3]) rfl ?_
            exact CutP.yes HC.out (by rw [Int.toNat_natCast, Int.toNat_natCast, Int.toNat_natCast, ← HL.out]; exact hbs) (((hbe1.trans (hbe.mono (by omega))).trans (hb5.mono (by have := hbe.size; omega))).setCell (by simp) _ |>.setCell (by simp) _)
  · have hcut : cutW s n a c = 2 := by simp [cutW, hr]
    have HC := hide hcut
    have hz : chkB s n = 2 := by simp [chkB, hr]
    clear hcut hr
    go_enter Try.func24, Try.ntmps24
    go_wp2_with (go_at_call 37; refine (check_any s n _ hn hs).mono ?_; rintro e w1 ⟨rfl, hb1⟩; rw [hz]; obtain ⟨hc1, hf1⟩ := bcell hb1)
    all_goals
      have kr : Bk w1 (w.heap.size + 1) 35 #[.string ⟨#[]⟩, .int .i64 0] := (Bk.new1 w _ _ _).keep hb1
      obtain ⟨q0, q1⟩ := two_cells ((kr.set_ 0 (.string ⟨#[]⟩)).set_ 1 (.int .i64 0))
      have hbe1 : Below w.heap.size w w1 := (((Below.refl _ _).alloc (Nat.le_refl _) _).alloc (by simp) _).trans (hb1.mono (by simp; omega))
      refine bodyPost_ret (v := .tuple #[bstr ⟨#[]⟩ 0, .int .i64 2]) (by simp [results, Try.results24, go_sem, q0, q1]) rfl ?_
      exact CutP.no HC.out (by decide) ((hbe1.setCell (by simp) _).setCell (by simp) _)
end Go.Proofs.Ytggffiikfelbjaa
