/- Walks: (*canon.Book).Next, canon.Read. -/
import Derived.Test.YtggffiikfelbjaaFind
import Derived.Test.YtggffiikfelbjaaWriterC
namespace Go.Proofs.Ytggffiikfelbjaa
open Go.RowKit

/-- A symbol is read, bit by bit: from length l on, the bits before it being code. -/
def nextC (ls : List Int) (s : ByteArray) (N a : Nat) : Nat → Nat → Nat → Int × Int × Int
  | 0, _, _ => (0, 0, 7)
  | f + 1, l, code =>
    if (symC ls 15).length = (symC ls l).length then (0, 0, 7)
    else if N < a + (l + 1) then (0, 0, 5)
    else match findC ls (2 * code + (bitAt s (a + l)).toNat) (l + 1) with
      | some i => ((i : Nat), (a + l + 1 : Nat), 0)
      | none => nextC ls s N a f (l + 1) (2 * code + (bitAt s (a + l)).toNat)
def NextP (r : Int × Int × Int) (w : World) (e : Ending) (w' : World) : Prop := e = .returned (.tuple #[.int .u64 r.1, .int .i64 r.2.1, .int .i64 r.2.2]) ∧ Below w.heap.size w w'
theorem NextP.of {r : Int × Int × Int} {x y z : Int} {w w' : World} (h : r = (x, y, z)) (hb : Below w.heap.size w w') : NextP r w (.returned (.tuple #[.int .u64 x, .int .i64 y, .int .i64 z])) w' := by
  subst h; exact ⟨rfl, hb⟩
theorem or_bit (C b : Nat) (hC : C < 1000000) (hb : b < 2) : bits .or .u64 ((C : Int) * 2) (b : Int) = ((2 * C + b : Nat) : Int) := by
  have e : (C : Int) * 2 = ((2 * C : Nat) : Int) := by omega
  rw [e, u64_or_nat _ _ (by omega) (by omega), nat_join 1 (2 * C) b (by omega) (by omega)]
theorem symC_step_len (ls : List Int) (l : Nat) : (symC ls (l + 1)).length = (symC ls l).length + cntC ls (l + 1) := by
  rw [symC, List.length_append, idxC_length]
theorem symC_len_mono (ls : List Int) {l : Nat} (h : l ≤ 15) : (symC ls l).length ≤ (symC ls 15).length := by
  obtain ⟨r, hr⟩ := symC_prefix ls l (15 - l)
  rw [show l + (15 - l) = 15 by omega] at hr
  rw [hr, List.length_append]; omega

set_option maxRecDepth 100000 in
set_option maxHeartbeats 2000000 in
theorem next_any (B p : Nat) (ls : List Int) (A : Option Addr) (c : Nat) (s : ByteArray) (N a : Nat) (w : World) (h : Book w B p ls A c) (hB : B ≤ w.heap.size) (hlen : ls.length ≤ 512) (hN : N ≤ 1048576) (hs : s.size = (N + 7) / 8) (ha : a ≤ N) :
    Calls Try.prog 45 #[.pointer (some ⟨p, 0, none⟩), bstr s N, .int .i64 a] w (NextP (nextC ls s N a 15 0 0) w) := by
  obtain ⟨R, hR⟩ : ∃ R, R = nextC ls s N a 15 0 0 := ⟨_, rfl⟩
  rw [← hR]
  have hsz : s.size ≤ 131072 := by omega
  have HS := hide hs
  have HBk := hide h
  have HR := hide hR
  obtain ⟨As, cs, Ac, cc, d32, d33, d34, dl, d0, hsy, hco, hls, hp⟩ := h.cells
  obtain ⟨M, hM⟩ : ∃ M, M = (symC ls 15).length := ⟨_, rfl⟩
  have hMb : M ≤ 8000 := by
    have h1 := symC_length_le ls 15
    omega
  rw [← hM] at d32
  have HM := hide hM
  have hpw : p < w.heap.size := by omega
  have dX : ∀ X : Obj, (w.alloc X).cell? ⟨p, 32, none⟩ = some (.slice As M cs) := fun X => (World.cell?_alloc_lt w X ⟨p, 32, none⟩ hpw).trans d32
  clear hs h hR d33 d34 dl d0 hsy hco hls hM
  go_enter Try.func45, Try.ntmps45
  go_wp2_with fail
  clear d32 dX
  go_loopw [9, 10, 11, 12] (fun cd ah lf l wr => ∃ L C H : Nat, (1 ≤ L ∧ L ≤ 16) ∧ l = .int .i64 L ∧ cd = .int .u64 C ∧ C < 2 ^ (L - 1) ∧ ah = .int .i64 H ∧ H ≤ M ∧ lf = .int .i64 ((M : Int) - (H : Int)) ∧ Hid (H = (symC ls (L - 1)).length) ∧ Hid (R = nextC ls s N a (16 - L) (L - 1) C) ∧
    Below w.heap.size w wr ∧ Bk wr w.heap.size 35 #[.string s, .int .i64 N]) (fun _ _ _ l _ => 17 - (intOf l).toNat)
  case atStart => exact ⟨1, 0, 0, by omega, rfl, rfl, by decide, rfl, by omega, by simp, rfl, hide HR.out, by go_grown, Bk.new _ _ _⟩
  case round =>
    obtain ⟨L, C, H, ⟨hL1, hL16⟩, rfl, rfl, hC, rfl, hHM, rfl, hH, hRn, hbe, hbk⟩ := hrel
    have hCb : C < 32768 := Nat.lt_of_lt_of_le hC (Nat.pow_le_pow_right (by omega) (show L - 1 ≤ 15 by omega))
    obtain ⟨e0, e1⟩ := two_cells hbk
    by_cases hl : L ≤ 15
    · have hl' : decide ((L : Int) ≤ 15) = true := decide_eq_true (by omega)
      obtain ⟨K, rfl⟩ : ∃ K, L = K + 1 := ⟨L - 1, by omega⟩
      have hRn' := hRn.out
      rw [show 16 - (K + 1) = (15 - K - 1) + 1 by omega, nextC, show K + 1 - 1 = K by omega] at hRn'
      have hH' := hH.out
      rw [show K + 1 - 1 = K by omega] at hH'
      by_cases h0 : M = H
      · have hb0 : ((M : Int) - (H : Int) == 0) = true := by simp; omega
        rw [if_pos (by rw [← HM.out, ← hH']; exact h0)] at hRn'
        have HF := hide hRn'
        clear hRn' hH'
        go_wp2_with fail
        go_ret3
        exact NextP.of HF.out hbe
      · have hb0 : ((M : Int) - (H : Int) == 0) = false := by simp; omega
        rw [if_neg (by rw [← HM.out, ← hH']; exact h0)] at hRn'
        by_cases h1 : N < a + (K + 1)
        · rw [if_pos h1] at hRn'
          have HF := hide hRn'
          clear hRn' hH'
          go_wp2_with fail
          go_ret3
          exact NextP.of HF.out hbe
        · rw [if_neg h1] at hRn'
          obtain ⟨b, hb⟩ : ∃ b, b = (bitAt s (a + K)).toNat := ⟨_, rfl⟩
          have hb2 : b < 2 := by rw [hb]; have := Bool.toNat_lt (bitAt s (a + K)); omega
          rw [← hb] at hRn'
          have hg : getN s (a + K) 1 = b := by rw [hb]; simp [getN]
          have hor := or_bit C b (by omega) hb2
          obtain ⟨C', hC'⟩ : ∃ C', C' = 2 * C + b := ⟨_, rfl⟩
          rw [← hC'] at hor hRn'
          have hC'b : C' < 65536 := by omega
          have at1 : ∀ W, Calls Try.prog 48 #[bstr s N, .int .i64 ((a : Int) + ((K : Int) + 1) - 1), .int .i64 1] W fun e w' => e = .returned (.int .u64 (b : Nat)) ∧ Below W.heap.size W w' := fun W => by
            have := at_i s N ((a : Int) + ((K : Int) + 1) - 1) 1 W (by omega) (by omega) (by omega) (by have := HS.out; omega) (by omega)
            rw [show ((a : Int) + ((K : Int) + 1) - 1).toNat = a + K by omega] at this
            rw [show (1 : Int).toNat = 1 from rfl, hg] at this
            exact this
          have HA := hide at1
          have hlt2 : C' < 2 ^ (K + 1) := by rw [Nat.pow_succ]; rw [show K + 1 - 1 = K by omega] at hC; omega
          have HL2 := hide hlt2
          have HC' := hide hC'
          have HF := hide hRn'
          have HH := hide hH'
          obtain ⟨V, hV⟩ : ∃ V, V = findV ls C' (K + 1) := ⟨_, rfl⟩
          have HV := hide hV
          have fi : ∀ W, Below w.heap.size w W → Calls Try.prog 34 #[.pointer (some ⟨p, 0, none⟩), .int .u64 C', .int .i64 ((K : Int) + 1), .int .i64 H] W fun e w' => e = .returned (.int .i64 V) ∧ w' = W := fun W hW => by
            have := find_i B p ls A c C' ((K : Int) + 1) H W (HBk.out.below (hW.mono hB)) hlen (by omega) (by omega) (by omega) (by omega) (by rw [show ((K : Int) + 1).toNat - 1 = K by omega, ← HH.out])
            rw [Int.toNat_natCast, show ((K : Int) + 1).toNat = K + 1 by omega, ← HV.out] at this
            exact this
          have HFi := hide fi
          clear hRn' hH' at1 hlt2 hC' hV fi hg hC hb
          by_cases hv : 0 ≤ V
          · have hr : R = (V, ((a + K + 1 : Nat) : Int), 0) := by
              have h2 := HF.out
              have h3 := HV.out
              unfold findV at h3
              split at h3
              · rename_i i he; rw [he] at h2; rw [h2, h3]
              · omega
            have HRf := hide hr
            have hvb : V ≤ 512 := by
              have h3 := HV.out
              unfold findV at h3
              split at h3
              · rename_i i he
                have := ((findC_iff ls C' (K + 1) i (by omega) (by omega)).1 he).1
                omega
              · omega
            clear hr
            go_wp2_with (first | (go_at_call 48; refine (Calls.mono (HA.out _) ?_); rintro e w1 ⟨rfl, hb1⟩) | (go_at_call 34; refine (Calls.mono (HFi.out _ (hbe.trans (hb1.mono hbe.size))) ?_); rintro e w2 ⟨rfl, rfl⟩))
            go_ret3
            exact NextP.of HRf.out (hbe.trans (hb1.mono hbe.size))
          · have hr : R = nextC ls s N a (15 - K - 1) (K + 1) C' := by
              have h2 := HF.out
              have h3 := HV.out
              unfold findV at h3
              split at h3
              · omega
              · rename_i he; rw [he] at h2; exact h2
            have HRf := hide hr
            have hbk2 := HBk.out.below (hbe.mono hB)
            clear hr
            go_wp2_with (first | (go_at_call 48; refine (Calls.mono (HA.out _) ?_); rintro e w1 ⟨rfl, hb1⟩) | (go_at_call 34; refine (Calls.mono (HFi.out _ (hbe.trans (hb1.mono hbe.size))) ?_); rintro e w2 ⟨rfl, rfl⟩))
            obtain ⟨As, cs, Ac, cc, d32, d33, d34, dl, d0, hsy, hco, hls, hp⟩ := (hbk2.below (hb1.mono (Nat.le_trans hB hbe.size))).cells
            obtain ⟨c1, c2⟩ := dl (K + 1) (by omega) (by omega)
            obtain ⟨T, hT⟩ : ∃ T, T = cntC ls (K + 1) := ⟨_, rfl⟩
            have hTb : H + T ≤ M := by
              have h1 := symC_len_mono ls (show K + 1 ≤ 15 by omega)
              rw [symC_step_len, ← HH.out, ← HM.out, ← hT] at h1; exact h1
            rw [← hT] at c1
            have HT := hide hT
            clear d32 d33 d34 dl d0 hsy hco hls hT c2
            go_region
            go_wp2
            go_roundw
            case rel =>
              exact ⟨K + 1 + 1, C', H + T, by omega, by go_num, rfl, by simpa using HL2.out, by go_num, hTb, by go_num, hide (by rw [show K + 1 + 1 - 1 = K + 1 by omega, symC_step_len, ← HH.out, ← HT.out]), hide (by rw [show 16 - (K + 1 + 1) = 15 - K - 1 by omega, show K + 1 + 1 - 1 = K + 1 by omega]; exact HRf.out), (hbe.trans (hb1.mono hbe.size)).drew, (hbk.keep hb1).drew⟩
            case measure => simp [intOf]; omega
    · have hl' : decide ((L : Int) ≤ 15) = false := decide_eq_false (by omega)
      obtain rfl : L = 16 := by omega
      have hRn' := hRn.out
      have HF := hide (show R = (0, 0, 7) from hRn')
      clear hRn'
      go_wp2_with fail
      go_ret3
      exact NextP.of HF.out hbe
end Go.Proofs.Ytggffiikfelbjaa
