/- Lemmas for the row: Crc, Tail, Num. -/
import Derived.Test.YtmopegpkoedgbaaGreatDoorM01
import Derived.Laws.BitsAll
set_option linter.unusedVariables false
set_option linter.unusedSimpArgs false
/- Walks: crc.step, More. -/
namespace Go.Proofs.YtmopegpkoedgbaaGreatDoor
open Go.RowKit

theorem crc_bit {x : Nat} (h : x < 4294967296) : bits .xor .u32 ((x : Int) / 2) (bits .and .u32 3988292384 (-bits .and .u32 (x : Int) 1 % 4294967296)) = (f1 x : Nat) := by
  have h1 : bits .and .u32 (x : Int) 1 = ((x % 2 : Nat) : Int) := by
    have := u32_and_nat x 1 h (by decide)
    rw [Nat.and_one_is_mod] at this
    exact this
  have h3 : ((x : Int) / 2) = ((x / 2 : Nat) : Int) := by omega
  have hp : crcP < 4294967296 := by decide
  rw [h1, h3]
  unfold f1
  rcases Nat.mod_two_eq_zero_or_one x with e | e
  · rw [e, show (-((0 : Nat) : Int)) % 4294967296 = ((0 : Nat) : Int) by decide, show (3988292384 : Int) = ((crcP : Nat) : Int) from rfl, u32_and_nat crcP 0 hp (by decide), Nat.and_zero, u32_xor_nat _ 0 (by omega) (by decide), if_neg (by decide)]
  · rw [e, show (-((1 : Nat) : Int)) % 4294967296 = ((4294967295 : Nat) : Int) by decide, show (3988292384 : Int) = ((crcP : Nat) : Int) from rfl, u32_and_nat crcP 4294967295 hp (by decide), show crcP &&& 4294967295 = crcP by decide, u32_xor_nat _ crcP (by omega) hp, if_pos rfl]

set_option maxHeartbeats 1000000 in
theorem step_any (r : Nat) (w : World) (hr : r < 4294967296) : Calls Tryz.prog 233 #[.int .u32 r] w fun e w' => e = .returned (.int .u32 (fN 8 r : Nat)) ∧ w' = w := by
  go_enter Tryz.func233, Tryz.ntmps233
  go_wp2_with fail
  go_loopw [0, 3] (fun v i wr => ∃ k : Nat, k ≤ 8 ∧ i = .int .i64 k ∧ v = .int .u32 (fN k r : Nat) ∧ w = wr) (fun _ i _ => 8 - (intOf i).toNat)
  case atStart => exact ⟨0, by omega, rfl, rfl, rfl⟩
  case round =>
    obtain ⟨k, hk, rfl, rfl, rfl⟩ := hrel
    obtain ⟨x, hx⟩ : ∃ x, x = fN k r := ⟨_, rfl⟩
    have hxl : x < 4294967296 := by rw [hx]; exact fN_lt hr k
    rw [← hx]
    have HX := hide hx
    clear hx
    by_cases hlt : k < 8
    · go_wp2_with fail
      go_roundw
      case rel => exact ⟨k + 1, by omega, by go_num, v_int (by rw [crc_bit hxl, HX.out, fN_succ]), trivial⟩
      case measure => simp [intOf]; omega
    · obtain rfl : k = 8 := by omega
      go_wp2_with fail
      go_ret
      exact ⟨by rw [← HX.out]; rfl, rfl⟩
theorem not32 {n : Nat} (h : n < 4294967296) : bits .xor .u32 IntKind.u32.max (n : Int) = ((4294967295 - n : Nat) : Int) := by
  rw [show IntKind.u32.max = ((4294967295 : Nat) : Int) from rfl, u32_xor_nat 4294967295 n (by decide) h]
  congr 1
  apply Nat.eq_of_testBit_eq
  intro i
  have e : 4294967295 - n = 2 ^ 32 - (n + 1) := by omega
  rw [Nat.testBit_xor, e, Nat.testBit_two_pow_sub_succ (n := 32) h, show 4294967295 = 2 ^ 32 - 1 from rfl, Nat.testBit_two_pow_sub_one]
  by_cases hi : i < 32
  · simp [hi]
  · simp [hi]
    exact Nat.testBit_lt_two_pow (Nat.lt_of_lt_of_le h (show 2 ^ 32 ≤ 2 ^ i from Nat.pow_le_pow_right (by decide) (by omega)))
set_option maxRecDepth 100000 in
set_option maxHeartbeats 2000000 in
theorem more_any (sum : Nat) (s : ByteArray) (w : World) (hr : sum < 4294967296) (hs : s.size ≤ 9223372036854775806) : Calls Tryz.prog 217 #[.int .u32 sum, .string s] w fun e w' => e = .returned (.int .u32 (crcM sum (strL s) : Nat)) ∧ w' = w := by
  have n0 := not32 hr
  go_enter Tryz.func217, Tryz.ntmps217
  go_wp2_with fail
  go_loopw [5, 11] (fun v i wr => ∃ k : Nat, k ≤ s.size ∧ i = .int .i64 k ∧ v = .int .u32 (crcR (4294967295 - sum) ((strL s).take k) : Nat) ∧ w = wr) (fun _ i _ => s.size - (intOf i).toNat)
  case atStart => exact ⟨0, by omega, rfl, by rw [List.take_zero]; rfl, rfl⟩
  case round =>
    obtain ⟨k, hk, rfl, rfl, rfl⟩ := hrel
    obtain ⟨x, hx⟩ : ∃ x, x = crcR (4294967295 - sum) ((strL s).take k) := ⟨_, rfl⟩
    have hxl : x < 4294967296 := by rw [hx]; exact crcR_lt (fun y hy => strL_lt s y (List.mem_of_mem_take hy)) (by omega)
    rw [← hx]
    have HX := hide hx
    clear hx n0
    by_cases hlt : k < s.size
    · obtain ⟨c, hc⟩ : ∃ c, c = byt s k := ⟨_, rfl⟩
      have hc256 : c < 256 := by rw [hc]; exact byt_lt s k
      have hcs : (s[k]'hlt).toNat = c := by rw [hc, byt_of]
      have hst : (strL s).take (k + 1) = (strL s).take k ++ [c] := by rw [hc]; exact strL_take hlt
      have HSt := hide hst
      obtain ⟨m, hm⟩ : ∃ m, m = (x ^^^ c) % 256 := ⟨_, rfl⟩
      have hml : m < 4294967296 := by omega
      have b1 : bits .and .u32 (bits .xor .u32 (x : Int) (c : Int)) 255 = (m : Int) := by
        rw [u32_xor_nat x c hxl (by omega), show (255 : Int) = ((255 : Nat) : Int) from rfl, u32_and_nat _ 255 (xor_lt32 hxl (by omega)) (by decide), show (x ^^^ c) &&& 255 = (x ^^^ c) % 256 from Nat.and_two_pow_sub_one_eq_mod (x ^^^ c) 8, ← hm]
      obtain ⟨y, hy⟩ : ∃ y, y = fN 8 m := ⟨_, rfl⟩
      have hyl : y < 4294967296 := by rw [hy]; exact fN_lt hml 8
      have b2 : bits .xor .u32 ((x : Int) / 256) (y : Int) = (crcB x c : Nat) := by
        rw [show ((x : Int) / 256) = ((x / 256 : Nat) : Int) by omega, u32_xor_nat _ y (by omega) hyl, hy, hm, crcB_table hc256]
      have st := fun W => step_any m W hml
      rw [← hy] at st
      have HS := hide st
      clear hc hst hm hy st
      go_wp2_with (go_at_call 233; refine (Calls.mono (HS.out _) ?_); rintro e w1 ⟨rfl, hww⟩; replace hww := hww.symm; subst hww)
      go_roundw
      case rel => exact ⟨k + 1, by omega, by go_num, v_int (by rw [HSt.out, crcR_snoc, ← HX.out]), by first | rfl | trivial⟩
      case measure => simp [intOf]; omega
    · obtain rfl : k = s.size := by omega
      have n1 := not32 hxl
      go_wp2_with fail
      go_ret
      refine ⟨?_, rfl⟩
      have := HX.out
      rw [List.take_of_length_le (by rw [strL_length]; exact Nat.le_refl _)] at this
      unfold crcM
      rw [← this]
      rfl

set_option maxRecDepth 100000 in
theorem sum_one (b o c : Nat) (s : ByteArray) (w : World) (hc : w.cell? ⟨b, o, none⟩ = some (.string s)) (hs : s.size ≤ 9223372036854775806) :
    Calls Tryz.prog 195 #[.slice (some ⟨b, o, none⟩) 1 c] w fun e w' => e = .returned (.int .u32 (crcS (strL s) : Nat)) ∧ w' = w := by
  have m0 := fun W => more_any 0 s W (by decide) hs
  obtain ⟨y, hy⟩ : ∃ y, y = crcS (strL s) := ⟨_, rfl⟩
  have hm : crcM 0 (strL s) = y := by rw [hy]; rfl
  rw [hm] at m0
  rw [← hy]
  have HM := hide m0
  clear hm hy m0
  go_enter Tryz.func195, Tryz.ntmps195
  go_wp2_with fail
  go_loopw [3, 8] (fun v i wr => ∃ k : Nat, k ≤ 1 ∧ i = .int .i64 k ∧ v = .int .u32 ((if k = 0 then 0 else y) : Nat) ∧ w = wr) (fun _ i _ => 1 - (intOf i).toNat)
  case atStart => exact ⟨0, by omega, rfl, rfl, rfl⟩
  case round =>
    obtain ⟨k, hk, rfl, rfl, rfl⟩ := hrel
    by_cases h0 : k = 0
    · subst h0
      go_wp2_with (go_at_call 217; refine (Calls.mono (HM.out _) ?_); rintro e w1 ⟨rfl, hww⟩; replace hww := hww.symm; subst hww)
      go_roundw
      case rel => exact ⟨1, by omega, by first | rfl | go_num, rfl, by first | rfl | trivial⟩
      case measure => simp [intOf]
    · obtain rfl : k = 1 := by omega
      go_wp2_with fail
      go_ret
      exact ⟨rfl, rfl⟩
end Go.Proofs.YtmopegpkoedgbaaGreatDoor
/- Walks: math/bits.ReverseBytes32, crc.Tail, the document's little. -/
namespace Go.Proofs.YtmopegpkoedgbaaGreatDoor
open Go.RowKit

theorem mask_bytes (x : Nat) : x &&& 16711935 = 2 ^ 16 * (x / 65536 % 256) + x % 256 := by
  apply Nat.eq_of_testBit_eq
  intro j
  rw [Nat.testBit_and, show 16711935 = 2 ^ 16 * 255 + 255 from rfl, Nat.testBit_two_pow_mul_add 255 (show 255 < 2 ^ 16 by decide), Nat.testBit_two_pow_mul_add _ (show x % 256 < 2 ^ 16 by omega), show 255 = 2 ^ 8 - 1 from rfl, show x % 256 = x % 2 ^ 8 from rfl, show x / 65536 % 256 = x / 2 ^ 16 % 2 ^ 8 from rfl]
  simp only [Nat.testBit_two_pow_sub_one, Nat.testBit_mod_two_pow, Nat.testBit_div_two_pow]
  by_cases h : j < 16
  · rw [if_pos h, if_pos h, Bool.and_comm]
  · rw [if_neg h, if_neg h, Bool.and_comm, Nat.sub_add_cancel (by omega)]
theorem byte_high {x j : Nat} (h : x < 256) (hj : 8 ≤ j) : x.testBit j = false := Nat.testBit_lt_two_pow (Nat.lt_of_lt_of_le h (show 2 ^ 8 ≤ 2 ^ j from Nat.pow_le_pow_right (by decide) hj))
theorem or_bytes {x y X Y : Nat} (hx : x < 256) (hy : y < 256) (hX : X < 256) : (2 ^ 16 * X + x) ||| (2 ^ 24 * Y + 2 ^ 8 * y) = 2 ^ 24 * Y + (2 ^ 16 * X + (2 ^ 8 * y + x)) := by
  apply Nat.eq_of_testBit_eq
  intro j
  rw [Nat.testBit_or, Nat.testBit_two_pow_mul_add _ (show x < 2 ^ 16 by omega), Nat.testBit_two_pow_mul_add _ (show 2 ^ 8 * y < 2 ^ 24 by omega), Nat.testBit_two_pow_mul_add _ (show 2 ^ 16 * X + (2 ^ 8 * y + x) < 2 ^ 24 by omega), Nat.testBit_two_pow_mul_add _ (show 2 ^ 8 * y + x < 2 ^ 16 by omega), Nat.testBit_two_pow_mul_add _ (show x < 2 ^ 8 by omega), Nat.testBit_two_pow_mul]
  by_cases h8 : j < 8
  · rw [if_pos (by omega), if_pos (by omega), if_pos (by omega), if_pos (by omega), if_pos h8, decide_eq_false (by omega), Bool.false_and, Bool.or_false]
  · by_cases h16 : j < 16
    · rw [if_pos h16, if_pos (by omega), if_pos (by omega), if_pos h16, if_neg h8, byte_high hx (by omega), decide_eq_true (by omega), Bool.true_and, Bool.false_or]
    · by_cases h24 : j < 24
      · rw [if_neg h16, if_pos h24, if_pos h24, if_neg h16, byte_high hy (j := j - 8) (by omega), Bool.and_false, Bool.or_false]
      · rw [if_neg h16, if_neg h24, if_neg h24, byte_high hX (j := j - 16) (by omega), Bool.false_or]
/-- A register, its bytes turned round. -/
def revN (n : Nat) : Nat := 2 ^ 24 * (n % 256) + (2 ^ 16 * (n / 256 % 256) + (2 ^ 8 * (n / 65536 % 256) + n / 16777216 % 256))
theorem rev_one (n : Nat) : (n / 256 &&& 16711935) ||| ((n &&& 16711935) * 256 % 4294967296) = 2 ^ 24 * (n / 65536 % 256) + (2 ^ 16 * (n / 16777216 % 256) + (2 ^ 8 * (n % 256) + n / 256 % 256)) := by
  rw [mask_bytes, mask_bytes, show n / 256 / 65536 % 256 = n / 16777216 % 256 by omega]
  have e : (2 ^ 16 * (n / 65536 % 256) + n % 256) * 256 % 4294967296 = 2 ^ 24 * (n / 65536 % 256) + 2 ^ 8 * (n % 256) := by omega
  rw [e, or_bytes (by omega) (by omega) (by omega)]
theorem rev_two {a b c d : Nat} (ha : a < 256) (hb : b < 256) (hc : c < 256) (hd : d < 256) :
    ((2 ^ 24 * a + (2 ^ 16 * b + (2 ^ 8 * c + d))) / 65536) ||| ((2 ^ 24 * a + (2 ^ 16 * b + (2 ^ 8 * c + d))) * 65536 % 4294967296) = 2 ^ 24 * c + (2 ^ 16 * d + (2 ^ 8 * a + b)) := by
  have e1 : (2 ^ 24 * a + (2 ^ 16 * b + (2 ^ 8 * c + d))) / 65536 = 2 ^ 8 * a + b := by omega
  have e2 : (2 ^ 24 * a + (2 ^ 16 * b + (2 ^ 8 * c + d))) * 65536 % 4294967296 = 2 ^ 16 * (2 ^ 8 * c + d) := by omega
  rw [e1, e2, Nat.or_comm, ← Nat.two_pow_add_eq_or_of_lt (show 2 ^ 8 * a + b < 2 ^ 16 by omega)]
  omega
theorem revN_tail (n : Nat) : revN n / 16777216 % 256 = n % 256 ∧ revN n / 65536 % 256 = n / 256 % 256 ∧ revN n / 256 % 256 = n / 65536 % 256 ∧ revN n % 256 = n / 16777216 % 256 := by
  have key : ∀ a b c d : Nat, a < 256 → b < 256 → c < 256 → d < 256 → (2 ^ 24 * a + (2 ^ 16 * b + (2 ^ 8 * c + d))) / 16777216 % 256 = a ∧ (2 ^ 24 * a + (2 ^ 16 * b + (2 ^ 8 * c + d))) / 65536 % 256 = b ∧ (2 ^ 24 * a + (2 ^ 16 * b + (2 ^ 8 * c + d))) / 256 % 256 = c ∧ (2 ^ 24 * a + (2 ^ 16 * b + (2 ^ 8 * c + d))) % 256 = d := by
    intro a b c d ha hb hc hd
    omega
  exact key _ _ _ _ (by omega) (by omega) (by omega) (by omega)
theorem revN_lt (n : Nat) : revN n < 4294967296 := by unfold revN; omega
theorem reverse_any (n : Nat) (w : World) (h : n < 4294967296) : Calls Tryz.prog 216 #[.int .u32 n] w fun e w' => e = .returned (.int .u32 (revN n : Nat)) ∧ w' = w := by
  obtain ⟨A, hA⟩ : ∃ A, A = n / 256 &&& 16711935 := ⟨_, rfl⟩
  obtain ⟨B, hB⟩ : ∃ B, B = (n &&& 16711935) * 256 % 4294967296 := ⟨_, rfl⟩
  have hAl : A < 4294967296 := by rw [hA, mask_bytes]; omega
  have hBl : B < 4294967296 := by rw [hB]; omega
  have r1 := rev_one n
  have r2 := rev_two (show n / 65536 % 256 < 256 by omega) (show n / 16777216 % 256 < 256 by omega) (show n % 256 < 256 by omega) (show n / 256 % 256 < 256 by omega)
  rw [← hA, ← hB] at r1
  rw [← r1] at r2
  obtain ⟨C, hC⟩ : ∃ C, C = A ||| B := ⟨_, rfl⟩
  have hCl : C < 4294967296 := by rw [hC]; exact Nat.or_lt_two_pow (n := 32) hAl hBl
  rw [← hC] at r2
  have b1 : bits .and .u32 ((n : Int) / 256) 16711935 = (A : Int) := by
    rw [show ((n : Int) / 256) = ((n / 256 : Nat) : Int) by omega, show (16711935 : Int) = ((16711935 : Nat) : Int) from rfl, u32_and_nat _ _ (by omega) (by decide), ← hA]
  have b2 : bits .and .u32 (n : Int) 16711935 = ((n &&& 16711935 : Nat) : Int) := u32_and_nat n 16711935 h (by decide)
  have b3 : ((n &&& 16711935 : Nat) : Int) * 256 % 4294967296 = (B : Int) := by rw [hB]; omega
  have b4 : bits .or .u32 (A : Int) (B : Int) = (C : Int) := by rw [u32_or_nat A B hAl hBl, ← hC]
  have b5 : bits .or .u32 ((C : Int) / 65536) ((C : Int) * 65536 % 4294967296) = (revN n : Nat) := by
    rw [show ((C : Int) / 65536) = ((C / 65536 : Nat) : Int) by omega, show ((C : Int) * 65536 % 4294967296) = ((C * 65536 % 4294967296 : Nat) : Int) by omega, u32_or_nat _ _ (by omega) (by omega), r2]; rfl
  clear r1 r2 hA hB hC
  go_enter Tryz.func216, Tryz.ntmps216
  go_wp2_with fail
  go_ret
  exact ⟨rfl, rfl⟩
set_option maxRecDepth 100000 in
theorem tail_any (n : Nat) (w : World) (h : n < 4294967296) : Calls Tryz.prog 194 #[.int .u32 n] w fun e w' => e = .returned (.string (strOf (tail4 n))) ∧ Below w.heap.size w w' := by
  obtain ⟨t1, t2, t3, t4⟩ := revN_tail n
  obtain ⟨R, hR⟩ : ∃ R, R = revN n := ⟨_, rfl⟩
  have hRl : R < 4294967296 := by rw [hR]; exact revN_lt n
  have rv := fun W => reverse_any n W h
  rw [← hR] at t1 t2 t3 t4 rv
  have hl : [R / 16777216, R / 65536 % 256, R / 256 % 256, R % 256] = tail4 n := by
    unfold tail4
    rw [← t1, ← t2, ← t3, ← t4, Nat.mod_eq_of_lt (show R / 16777216 < 256 by omega)]
  have hcs : #[Value.int .u8 ((R : Int) / 16777216), .int .u8 ((R : Int) / 65536 % 256), .int .u8 ((R : Int) / 256 % 256), .int .u8 ((R : Int) % 256)] = (vby [R / 16777216, R / 65536 % 256, R / 256 % 256, R % 256]).toArray := by
    simp [vby]
  have hcv : (convert 99 9 (.slice (some ⟨w.heap.size, 0, none⟩) 4 4)).run Tryz.prog (w.alloc (.cells #[Value.int .u8 ((R : Int) / 16777216), .int .u8 ((R : Int) / 65536 % 256), .int .u8 ((R : Int) / 256 % 256), .int .u8 ((R : Int) % 256)] 5)) = .ok (.string (strOf (tail4 n))) (w.alloc (.cells #[Value.int .u8 ((R : Int) / 16777216), .int .u8 ((R : Int) / 65536 % 256), .int .u8 ((R : Int) / 256 % 256), .int .u8 ((R : Int) % 256)] 5)) := by
    rw [hcs, ← hl]
    exact run_conv Tryz.prog _ 99 5 Tryz.underlying99 Tryz.underlying5 9 Tryz.underlying9 (l := [R / 16777216, R / 65536 % 256, R / 256 % 256, R % 256]) (B := w.heap.size + 1) (fun i u hu => ⟨w.heap.size, 0, rfl, by omega, by rw [Nat.zero_add, (Bk.new w 5 (vby [R / 16777216, R / 65536 % 256, R / 256 % 256, R % 256]).toArray).cell i, List.getElem?_toArray]; exact hu⟩) 4
  have HR := hide rv
  clear t1 t2 t3 t4 rv hR hl hcs
  go_enter Tryz.func194, Tryz.ntmps194
  go_wp2_with (go_at_call 216; refine (Calls.mono (HR.out _) ?_); rintro e w1 ⟨rfl, hww⟩; replace hww := hww.symm; subst hww)
  go_ret
  exact ⟨rfl, (Below.refl _ _).alloc (Nat.le_refl _) _⟩
end Go.Proofs.YtmopegpkoedgbaaGreatDoor
/- Walks: num.Five, num.Of at a text, the document's Five. -/
namespace Go.Proofs.YtmopegpkoedgbaaGreatDoor
open Go.RowKit

/-- A number's five bytes, as an array. -/
def fiveV (n : Nat) : Value := .agg (vby (five n)).toArray
set_option maxRecDepth 100000 in
theorem five_any (n : Nat) (w : World) : Calls Tryz.prog 108 #[.int .u64 n] w fun e w' => e = .returned (fiveV n) ∧ Below w.heap.size w w' := by
  go_enter Tryz.func108, Tryz.ntmps108
  go_wp2_with fail
  refine bodyPost_ret (v := fiveV n) (by simp [results, Tryz.results108, go_sem, fiveV, vby, five]; try omega) rfl ?_
  exact ⟨rfl, (Below.refl _ _).alloc (Nat.le_refl _) _⟩
theorem or_low {a c : Nat} (hc : c < 256) : a * 256 ||| c = 256 * a + c := by
  rw [show a * 256 = 2 ^ 8 * a by omega, ← Nat.two_pow_add_eq_or_of_lt (show c < 2 ^ 8 by omega)]
set_option maxRecDepth 100000 in
theorem numOf_any (s : ByteArray) (w : World) (h : 5 ≤ s.size) : Calls Tryz.prog 89 #[.string s] w fun e w' => e = .returned (.int .u64 (ofB ((strL s).take 5) : Nat)) ∧ w' = w := by
  go_enter Tryz.func89, Tryz.ntmps89
  go_wp2_with fail
  go_loopw [3, 5] (fun v i wr => ∃ k n : Nat, k ≤ 5 ∧ i = .int .i64 k ∧ v = .int .u64 n ∧ Hid (n = ofB ((strL s).take k)) ∧ n < 256 ^ k ∧ w = wr) (fun _ i _ => 5 - (intOf i).toNat)
  case atStart => exact ⟨0, 0, by omega, rfl, rfl, hide (by rw [List.take_zero]; rfl), by decide, rfl⟩
  case round =>
    obtain ⟨k, n, hk, rfl, rfl, hn, hlt, rfl⟩ := hrel
    by_cases h5 : k < 5
    · have hp : 256 ^ k ≤ 256 ^ 4 := Nat.pow_le_pow_right (by decide) (by omega)
      have hnl : n < 4294967296 := Nat.lt_of_lt_of_le hlt hp
      have hks : k < s.size := by omega
      obtain ⟨c, hc⟩ : ∃ c, c = byt s k := ⟨_, rfl⟩
      have hc256 : c < 256 := by rw [hc]; exact byt_lt s k
      have hcs : (s[k]'hks).toNat = c := by rw [hc, byt_of]
      have hst : (strL s).take (k + 1) = (strL s).take k ++ [c] := by rw [hc]; exact strL_take hks
      have b1 : bits .or .u64 ((n : Int) * 256) (c : Int) = ((256 * n + c : Nat) : Int) := by
        rw [show ((n : Int) * 256) = ((n * 256 : Nat) : Int) by omega, bits_or_u64_nat _ c (by omega) (by omega), or_low hc256]
      have hlt2 : 256 * n + c < 256 ^ (k + 1) := by rw [Nat.pow_succ]; omega
      have hn2 : 256 * n + c = ofB ((strL s).take (k + 1)) := by rw [hst, ofB_snoc, ← hn.out]
      have HN2 := hide hn2
      have HL2 := hide hlt2
      obtain ⟨m, hm⟩ : ∃ m, m = 256 * n + c := ⟨_, rfl⟩
      rw [← hm] at b1 HN2 HL2
      clear hc hst hlt hp hlt2 hn2 hm
      go_wp2_with fail
      go_roundw
      case rel => exact ⟨k + 1, m, by omega, by go_num, by first | rfl | go_num, HN2, HL2.out, by first | rfl | trivial⟩
      case measure => simp [intOf]; omega
    · obtain rfl : k = 5 := by omega
      go_wp2_with fail
      go_ret
      exact ⟨by rw [← hn.out]; rfl, rfl⟩
end Go.Proofs.YtmopegpkoedgbaaGreatDoor
