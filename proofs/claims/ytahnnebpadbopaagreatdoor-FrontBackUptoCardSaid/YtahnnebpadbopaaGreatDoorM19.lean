/- Lemmas for the row: FrB, FrC, FrD. -/
import Derived.Test.YtahnnebpadbopaaGreatDoorM10
import Derived.Test.YtahnnebpadbopaaGreatDoorM16
import Derived.Test.YtahnnebpadbopaaGreatDoorM18
import Derived.Test.YtahnnebpadbopaaGreatDoorShelf
set_option linter.unusedVariables false
/- Walks: front.Quote, wringerref32.Quote. -/
namespace Go.Proofs.YtahnnebpadbopaaGreatDoor
open Go.RowKit

def nats (l : List UInt8) : List Nat := l.map UInt8.toNat
theorem nats_app (a b : List UInt8) : nats (a ++ b) = nats a ++ nats b := List.map_append
theorem strOf_nats (l : List UInt8) : strOf (nats l) = blB l := by
  unfold strOf nats blB
  rw [List.map_map]
  congr 2
  conv => rhs; rw [← List.map_id l]
  exact List.map_congr_left fun c _ => by simp
theorem vbyCells (l : List UInt8) : Lib.byteCells l = vby (nats l) := by
  unfold Lib.byteCells vby nats
  rw [List.map_map]
  rfl
theorem nats_length (l : List UInt8) : (nats l).length = l.length := by unfold nats; rw [List.length_map]
theorem bStringN (b : Nat) (l : List UInt8) (w : World) (h : Bd w b (nats l)) :
    Calls Tryz.prog 25 #[.pointer (some ⟨b, 0, none⟩)] w fun e w' => e = .returned (.string (blB l)) ∧ Below b w w' := by
  have hb := h.lt
  obtain ⟨p, v, h1, h2, h3⟩ := h
  have at_ : Lib.BuilderAtF 58 5 b b p (Lib.byteCells l) w := by
    refine ⟨Nat.le_refl _, v, h1, ?_, fun e => by have := (h3.lt b e).1; omega⟩
    rw [vbyCells, vby_length]
    exact World.ownsRowF_of (own_base h3 (fun g hg => by have := (h3.lt g hg).1; omega))
  refine (Tryz.Builder_String_any_k b b l w (h2.elim (fun e => .inl (by subst e; exact at_)) (fun e => .inr (by subst e; exact at_))) (by omega)).mono ?_
  rintro e w' ⟨rfl, _, hbe, _⟩
  exact ⟨rfl, hbe⟩
/-- A text's bytes, by their places. -/
theorem bl_size (s : ByteArray) : (bl s).length = s.size := by unfold bl; rw [Array.length_toList]; rfl
theorem bl_at (s : ByteArray) (k : Nat) (h : k < s.size) : (bl s)[k]? = some (s[k]'h) := by
  unfold bl
  rw [Array.getElem?_toList]
  exact Array.getElem?_eq_getElem h
theorem take_snoc {l : List UInt8} {k : Nat} {c : UInt8} (h : l[k]? = some c) : l.take (k + 1) = l.take k ++ [c] := by rw [List.take_add_one, h]; rfl
theorem quote_max (t : List UInt8) : (t.flatMap quoteC).length ≤ 4 * t.length := by
  induction t with
  | nil => exact Nat.le_refl _
  | cons c t ih =>
    rw [List.flatMap_cons, List.length_append, List.length_cons]
    have : (quoteC c).length ≤ 4 := by unfold quoteC; split <;> simp
    omega
theorem quoteC_plain {c : UInt8} (h : plainC c = true) : quoteC c = [c] := by unfold quoteC; rw [if_pos h]
theorem quoteC_not {c : UInt8} (h : plainC c = false) : quoteC c = [92, 120, hexD (c.toNat / 16), hexD (c.toNat % 16)] := by unfold quoteC; rw [if_neg (by rw [h]; decide)]
set_option maxRecDepth 100000 in
set_option maxHeartbeats 4000000 in
theorem fquote_any (s : ByteArray) (w : World) (hs : s.size ≤ 100000000) : Calls Tryz.prog 15 #[.string s] w fun e w' => e = .returned (.string (blB (quoteB (bl s)))) ∧ Below w.heap.size w w' := by
  have h0 := bwByte w.heap.size 34 [] (w.alloc (.cells #[.pointer none, .slice none 0 0] 58)) (Bd.new w) (by simp)
  have H0 := hide h0
  have hx := hex_at
  clear h0
  go_enter Tryz.func15, Tryz.ntmps15
  go_wp2_with (go_at_call 30; refine Calls.mono H0.out ?_; rintro e w1 ⟨rfl, hb, hf⟩; have HB1 := hide hb; have HF1 := hide hf; clear hb hf)
  go_loopw [9] (fun i wr => ∃ k : Nat, i = .int .i64 k ∧ k ≤ s.size ∧ Hid (Bd wr w.heap.size (nats (34 :: ((bl s).take k).flatMap quoteC))) ∧ Hid (Below w.heap.size w wr)) (fun i _ => s.size - (intOf i).toNat)
  case atStart => exact ⟨0, rfl, by omega, hide (by rw [List.take_zero]; exact HB1.out), hide ((ba1 _ _).trans HF1.out)⟩
  case round =>
    clear H0 HB1 HF1
    obtain ⟨k, rfl, hk, hbd, hbe⟩ := hrel
    have hq := quote_max ((bl s).take k)
    have hlq : (nats (34 :: ((bl s).take k).flatMap quoteC)).length ≤ 900000000 := by
      rw [nats_length, List.length_cons]
      rw [List.length_take] at hq
      omega
    by_cases hlt : k < s.size
    · obtain ⟨c, hc⟩ : ∃ c, c = s[k]'hlt := ⟨_, rfl⟩
      have hcn : (s[k]'hlt).toNat = c.toNat := by rw [hc]
      have hck : (bl s)[k]? = some c := by rw [hc]; exact bl_at s k hlt
      have hts := take_snoc hck
      have HTs := hide hts
      have hpl := fun W => plainc_any c W
      have HPl := hide hpl
      obtain ⟨pl, hpe⟩ : ∃ pl, pl = plainC c := ⟨_, rfl⟩
      rw [← hpe] at HPl
      have HPe := hide hpe
      clear hc hck hts hpl hpe hq
      have HB := hbd
      have HF := hbe
      clear hbd hbe
      cases pl with
      | true =>
        go_wp2_with (first
          | (go_at_call 28; refine Calls.mono (HPl.out _) ?_; rintro e w2 ⟨rfl, rfl⟩)
          | (go_at_call 30; refine Calls.mono (bwByte _ _ _ _ HB.out (by omega)) ?_; rintro e w2 ⟨rfl, hb, hf⟩; replace HF := hide (HF.out.trans hf); replace HB := hide hb; clear hb hf))
        refine ⟨⟨k + 1, by simp, by omega, hide ?_, HF⟩, by simp [intOf]; omega⟩
        have := HB.out
        rw [HTs.out, List.flatMap_append]
        have e1 : [c].flatMap quoteC = [c] := by simp [quoteC_plain HPe.out.symm]
        rw [e1]
        simpa [nats] using this
      | false =>
        have h1 : c.toNat / 16 < 16 := by have := c.toNat_lt; omega
        have h2 : c.toNat % 16 < 16 := by omega
        go_wp2_with (first
          | (go_at_call 28; refine Calls.mono (HPl.out _) ?_; rintro e w2 ⟨rfl, rfl⟩)
          | (go_at_call 30; refine Calls.mono (bwByte _ _ _ _ HB.out (by first | omega | (simp only [List.length_append, List.length_cons, List.length_nil]; omega))) ?_; rintro e w2 ⟨rfl, hb, hf⟩; replace HF := hide (HF.out.trans hf); replace HB := hide hb; clear hb hf))
        refine ⟨⟨k + 1, by simp, by omega, hide ?_, HF⟩, by simp [intOf]; omega⟩
        have := HB.out
        rw [HTs.out, List.flatMap_append]
        have e1 : [c].flatMap quoteC = [92, 120, hexD (c.toNat / 16), hexD (c.toNat % 16)] := by simp [quoteC_not HPe.out.symm]
        rw [e1]
        simpa [nats] using this
    · obtain rfl : k = s.size := by omega
      have HB := hbd
      have HF := hbe
      clear hbd hbe
      go_wp2_with (first
          | (go_at_call 30; refine Calls.mono (bwByte _ _ _ _ HB.out (by omega)) ?_; rintro e w2 ⟨rfl, hb, hf⟩; replace HF := hide (HF.out.trans hf); replace HB := hide (show Bd w2 w.heap.size (nats (quoteB (bl s))) from by have := hb; rw [List.take_of_length_le (by rw [bl_size]; omega)] at this; simpa [nats, quoteB] using this); clear hb hf)
          | (go_at_call 25; refine Calls.mono (bStringN _ _ _ HB.out) ?_; rintro e w3 ⟨rfl, hf⟩; replace HF := hide (HF.out.trans hf); clear hf))
      go_ret
      exact ⟨rfl, HF.out⟩
theorem drewn_more {w wr : World} (h : ∃ n, wr = w.drewN n) (m : Nat) : ∃ n, wr.drewN m = w.drewN n := by
  obtain ⟨n, rfl⟩ := h
  exact ⟨n + m, World.drewN_drewN _ _ _⟩
theorem below_nq {B : Nat} (w : World) (n : Nat) : Below B w (w.drewN n) := ⟨rfl, rfl, rfl, Nat.le_refl _, fun _ _ => rfl⟩
theorem blB_app (a b : List UInt8) : blB a ++ blB b = blB (a ++ b) := by
  apply ByteArray.ext
  rw [ByteArray.data_append]
  unfold blB
  simp
theorem hex_one (k : Nat) (h : k < 16) : hexT.extract k (k + 1) = blB [hexD k] := by
  have : ∀ k : Fin 16, hexT.extract k.val (k.val + 1) = blB [hexD k.val] := by decide
  exact this ⟨k, h⟩
theorem ext_one (s : ByteArray) (k : Nat) (h : k < s.size) : s.extract k (k + 1) = blB [s[k]'h] := by
  apply ByteArray.ext
  rw [ByteArray.data_extract]
  apply Array.ext'
  rw [Array.toList_extract]
  have h1 : s.data.toList[k]? = some (s[k]'h) := bl_at s k h
  show List.extract s.data.toList k (k + 1) = [s[k]'h]
  rw [List.extract_eq_take_drop]
  have h2 : k < s.data.toList.length := by have := bl_size s; unfold bl at this; omega
  rw [List.drop_eq_getElem_cons h2]
  rw [List.getElem?_eq_getElem h2] at h1
  simp only [Option.some.injEq] at h1
  rw [show k + 1 - k = 1 by omega, List.take_succ_cons, List.take_zero, h1]
set_option maxRecDepth 100000 in
set_option maxHeartbeats 4000000 in
theorem rquote_any (s : ByteArray) (w : World) (hs : s.size ≤ 100000000) : Calls Tryz.prog 16 #[.string s] w fun e w' => e = .returned (.string (blB (quoteB (bl s)))) ∧ ∃ n, w' = w.drewN n := by
  have hx := hex_one
  go_enter Tryz.func16, Tryz.ntmps16
  go_wp2_with fail
  go_loopw [3, 4] (fun o i wr => ∃ k : Nat, o = .string (blB (34 :: ((bl s).take k).flatMap quoteC)) ∧ i = .int .i64 k ∧ k ≤ s.size ∧ Hid (∃ n, wr = w.drewN n)) (fun _ i _ => s.size - (intOf i).toNat)
  case atStart => exact ⟨0, rfl, rfl, by omega, hide ⟨0, rfl⟩⟩
  case round =>
    obtain ⟨k, rfl, rfl, hk, hbe⟩ := hrel
    have hq := quote_max ((bl s).take k)
    obtain ⟨out, hout⟩ : ∃ out, out = blB (34 :: ((bl s).take k).flatMap quoteC) := ⟨_, rfl⟩
    have hlq : out.size ≤ 900000000 := by
      rw [hout]
      show (34 :: ((bl s).take k).flatMap quoteC).toArray.size ≤ _
      rw [List.size_toArray, List.length_cons]
      rw [List.length_take] at hq
      omega
    rw [← hout]
    have HO := hide hout
    clear hout hq
    by_cases hlt : k < s.size
    · obtain ⟨c, hc⟩ : ∃ c, c = s[k]'hlt := ⟨_, rfl⟩
      have hcn : (s[k]'hlt).toNat = c.toNat := by rw [hc]
      have hck : (bl s)[k]? = some c := by rw [hc]; exact bl_at s k hlt
      have hts := take_snoc hck
      have HTs := hide hts
      have hx1 : s.extract k (k + 1) = blB [c] := by rw [hc]; exact ext_one s k hlt
      have HX := hide hx1
      clear hc hck hts hx1
      have HC := hide (show c.toNat < 256 from c.toNat_lt)
      obtain ⟨n, hn⟩ : ∃ n, n = c.toNat := ⟨_, rfl⟩
      rw [← hn] at hcn HC
      have HN := hide hn
      clear hn
      have hesc : plainC c = false → out ++ ((⟨#[92, 120]⟩ : ByteArray) ++ hexT.extract (n / 16) (n / 16 + 1) ++ hexT.extract (n % 16) (n % 16 + 1)) = blB (34 :: ((bl s).take (k + 1)).flatMap quoteC) := fun hp => by
        have h2 : n / 16 < 16 := by have := HC.out; omega
        rw [hex_one _ h2, hex_one _ (show n % 16 < 16 by omega), HO.out, HTs.out, List.flatMap_append, show (⟨#[92, 120]⟩ : ByteArray) = blB [92, 120] from rfl, blB_app, blB_app, blB_app]
        have e1 : [c].flatMap quoteC = [92, 120, hexD (n / 16), hexD (n % 16)] := by rw [HN.out]; simp [quoteC_not hp]
        rw [e1]; rfl
      have hpln : plainC c = true → out ++ s.extract k (k + 1) = blB (34 :: ((bl s).take (k + 1)).flatMap quoteC) := fun hp => by
        rw [HX.out, HO.out, HTs.out, List.flatMap_append, blB_app]
        have e1 : [c].flatMap quoteC = [c] := by simp [quoteC_plain hp]
        rw [e1]; rfl
      have HE := hide hesc
      have HP := hide hpln
      have hcp : plainC c = (decide (32 ≤ n) && decide (n ≤ 126) && decide (n ≠ 34) && decide (n ≠ 92)) := by unfold plainC; rw [HN.out]
      have HCp := hide hcp
      clear hesc hpln hcp
      have hb256 : (n : Int) < 256 := by have := HC.out; omega
      by_cases h1 : (n : Int) < 32
      · go_wp2_with fail
        go_quiet (fail)
        go_wp2_with fail
        exact ⟨⟨k + 1, by rw [HE.out (by rw [HCp.out, decide_eq_false (show ¬ 32 ≤ n by omega)]; rfl)], by simp, by omega, hide (drewn_more hbe.out _)⟩, by simp [intOf]; omega⟩
      · by_cases h2 : (126 : Int) < (n : Int)
        · go_wp2_with fail
          go_quiet (fail)
          go_wp2_with fail
          exact ⟨⟨k + 1, by rw [HE.out (by rw [HCp.out, decide_eq_false (show ¬ n ≤ 126 by omega)]; simp)], by simp, by omega, hide (drewn_more hbe.out _)⟩, by simp [intOf]; omega⟩
        · by_cases h3 : n = 34
          · have e3 : ((n : Int) == 34) = true := by rw [h3]; rfl
            have H3 := hide h3
            clear h3
            go_wp2_with fail
            go_quiet (fail)
            go_wp2_with fail
            exact ⟨⟨k + 1, by rw [HE.out (by rw [HCp.out, H3.out]; rfl)], by simp, by omega, hide (drewn_more hbe.out _)⟩, by simp [intOf]; omega⟩
          · by_cases h4 : n = 92
            · have e3 : ((n : Int) == 34) = false := by rw [h4]; rfl
              have e4 : ((n : Int) == 92) = true := by rw [h4]; rfl
              have H4 := hide h4
              clear h3 h4
              go_wp2_with fail
              go_quiet (fail)
              go_wp2_with fail
              exact ⟨⟨k + 1, by rw [HE.out (by rw [HCp.out, H4.out]; rfl)], by simp, by omega, hide (drewn_more hbe.out _)⟩, by simp [intOf]; omega⟩
            · have e3 : ((n : Int) == 34) = false := by simp; omega
              have e4 : ((n : Int) == 92) = false := by simp; omega
              go_wp2_with fail
              exact ⟨⟨k + 1, by rw [HP.out (by rw [HCp.out, decide_eq_true (show 32 ≤ n by omega), decide_eq_true (show n ≤ 126 by omega), decide_eq_true h3, decide_eq_true h4]; rfl)], by simp, by omega, hbe⟩, by simp [intOf]; omega⟩
    · obtain rfl : k = s.size := by omega
      go_wp2_with fail
      go_ret
      exact ⟨by rw [HO.out, List.take_of_length_le (by rw [bl_size]; omega), show (⟨#[34]⟩ : ByteArray) = blB [34] from rfl, blB_app]; rfl, hbe.out⟩
end Go.Proofs.YtahnnebpadbopaaGreatDoor
/- Walks: front.escape, front.Unquote, wringerref32.Unquote. -/
namespace Go.Proofs.YtahnnebpadbopaaGreatDoor
open Go.RowKit

theorem index_hex (c : UInt8) : Lib.indexByte hexT.data.toList c = if digV c < 16 then (digV c : Int) else -1 := by
  have : ∀ n : Fin 256, Lib.indexByte hexT.data.toList (UInt8.ofNat n.val) = if digV (UInt8.ofNat n.val) < 16 then (digV (UInt8.ofNat n.val) : Int) else -1 := by decide +kernel
  have h := this ⟨c.toNat, c.toNat_lt⟩
  simpa only [UInt8.ofNat_toNat] using h
theorem or_hex (a b : Nat) (ha : a < 16) (hb : b < 16) : bits BinOp.or .i64 ((a : Int) * 16) (b : Int) % 256 = ((16 * a + b : Nat) : Int) := by
  have : ∀ a b : Fin 16, bits BinOp.or .i64 ((a.val : Int) * 16) (b.val : Int) % 256 = ((16 * a.val + b.val : Nat) : Int) := by decide +kernel
  exact this ⟨a, ha⟩ ⟨b, hb⟩
theorem idx_any (c : UInt8) (w : World) : Calls Tryz.prog 53 #[.string hexT, .int .u8 (c.toNat : Nat)] w fun e w' => e = .returned (.int .i64 (if digV c < 16 then (digV c : Int) else -1)) ∧ w' = w := by
  have := Tryz.strings_IndexByte hexT (c.toNat : Nat) w
  rw [show ((c.toNat : Nat) : Int).toNat.toUInt8 = c from by simp] at this
  rw [index_hex] at this
  exact this
set_option maxRecDepth 100000 in
set_option maxHeartbeats 4000000 in
theorem escape_any (s : ByteArray) (w : World) (hs : s.size ≤ 100000000) : Calls Tryz.prog 27 #[.string s] w fun e w' => ∃ x : Int, e = .returned (.tuple #[.int .u8 x, .bool (escB (bl s)).isSome]) ∧ (∀ c, escB (bl s) = some c → x = (c.toNat : Nat)) ∧ Below w.heap.size w w' := by
  by_cases h3 : (s.size : Int) < 3
  · have he : escB (bl s) = none := by
      have := bl_size s
      match h : bl s with
      | [] => rfl
      | [_] => rfl
      | [_, _] => rfl
      | x :: a :: b :: r => rw [h] at this; simp at this; omega
    rw [he]
    go_enter Tryz.func27, Tryz.ntmps27
    go_wp2_with fail
    refine bodyPost_ret (v := .tuple #[.int .u8 0, .bool false]) (by simp [results, Tryz.results27, go_sem]) rfl ?_
    exact ⟨0, rfl, fun c hc => (by cases hc), Below.refl _ _⟩
  · obtain ⟨x0, x1, x2, r, hl⟩ : ∃ x0 x1 x2 r, bl s = x0 :: x1 :: x2 :: r := by
      have := bl_size s
      match h : bl s with
      | [] => rw [h] at this; simp at this; omega
      | [_] => rw [h] at this; simp at this; omega
      | [_, _] => rw [h] at this; simp at this; omega
      | x :: a :: b :: r => exact ⟨x, a, b, r, rfl⟩
    have q0 : (s[0]'(by omega)).toNat = x0.toNat := by
      have := bl_at s 0 (by omega)
      rw [hl] at this; simp at this; rw [this]
    have q1 : (s[1]'(by omega)).toNat = x1.toNat := by
      have := bl_at s 1 (by omega)
      rw [hl] at this; simp at this; rw [this]
    have q2 : (s[2]'(by omega)).toNat = x2.toNat := by
      have := bl_at s 2 (by omega)
      rw [hl] at this; simp at this; rw [this]
    rw [hl, escB_cons]
    clear hl
    have b1 : (1 : Int) < (s.size : Int) := by omega
    have b2 : (2 : Int) < (s.size : Int) := by omega
    have b3 : 1 < s.size := by omega
    have b4 : 2 < s.size := by omega
    by_cases hx : x0 = 120
    · have e0 : ((x0.toNat : Int) != 120) = false := by rw [hx]; rfl
      have i1 := fun W => idx_any x1 W
      have i2 := fun W => idx_any x2 W
      by_cases g1 : digV x1 < 16
      · rw [if_pos g1] at i1
        obtain ⟨n1, hn1⟩ : ∃ n1, n1 = digV x1 := ⟨_, rfl⟩
        rw [← hn1] at i1 g1 ⊢
        clear hn1
        by_cases g2 : digV x2 < 16
        · rw [if_pos g2] at i2
          obtain ⟨n2, hn2⟩ : ∃ n2, n2 = digV x2 := ⟨_, rfl⟩
          rw [← hn2] at i2 g2 ⊢
          clear hn2
          obtain ⟨c0, hc0⟩ : ∃ c0, c0 = UInt8.ofNat (16 * n1 + n2) := ⟨_, rfl⟩
          have hbv : bits BinOp.or .i64 ((n1 : Int) * 16) (n2 : Int) % 256 = (c0.toNat : Int) := by rw [or_hex n1 n2 g1 g2, hc0, UInt8.toNat_ofNat']; omega
          rw [← hc0]
          have hpl := fun W => plainc_any c0 W
          obtain ⟨pl, hpe⟩ : ∃ pl, pl = plainC c0 := ⟨_, rfl⟩
          rw [← hpe] at hpl ⊢
          have HPl := hide hpl
          have hif : (if x0 = 120 ∧ n1 < 16 ∧ n2 < 16 ∧ pl = false then some c0 else none) = if pl = false then some c0 else none := by
            by_cases hq : pl = false
            · rw [if_pos ⟨hx, g1, g2, hq⟩, if_pos hq]
            · rw [if_neg (fun h => hq h.2.2.2), if_neg hq]
          rw [hif]
          have I1 := hide i1
          have I2 := hide i2
          clear i1 i2 hc0 hpl hpe hif hx
          cases pl with
          | true =>
            rw [if_neg (by decide)]
            go_enter Tryz.func27, Tryz.ntmps27
            go_wp2_with fail
            go_quiet (first | (go_at_call 53; exact Calls.quiet_of_same (I1.out _)) | (go_at_call 53; exact Calls.quiet_of_same (I2.out _)))
            go_wp2_with (go_at_call 28; refine Calls.mono (HPl.out _) ?_; rintro e w2 ⟨rfl, rfl⟩)
            refine bodyPost_ret (v := .tuple #[.int .u8 (c0.toNat : Nat), .bool false]) (by simp [results, Tryz.results27, go_sem]) rfl ?_
            exact ⟨_, rfl, fun c hc => (by cases hc), below_nq _ _⟩
          | false =>
            rw [if_pos rfl]
            go_enter Tryz.func27, Tryz.ntmps27
            go_wp2_with fail
            go_quiet (first | (go_at_call 53; exact Calls.quiet_of_same (I1.out _)) | (go_at_call 53; exact Calls.quiet_of_same (I2.out _)))
            go_wp2_with (go_at_call 28; refine Calls.mono (HPl.out _) ?_; rintro e w2 ⟨rfl, rfl⟩)
            refine bodyPost_ret (v := .tuple #[.int .u8 (c0.toNat : Nat), .bool true]) (by simp [results, Tryz.results27, go_sem]) rfl ?_
            exact ⟨_, rfl, fun c hc => (by cases hc; rfl), below_nq _ _⟩
        · rw [if_neg g2] at i2
          rw [if_neg (fun h => g2 h.2.2.1)]
          have I1 := hide i1
          have I2 := hide i2
          clear i1 i2 g2 hx
          go_enter Tryz.func27, Tryz.ntmps27
          go_wp2_with fail
          go_quiet (first | (go_at_call 53; exact Calls.quiet_of_same (I1.out _)) | (go_at_call 53; exact Calls.quiet_of_same (I2.out _)))
          go_wp2_with fail
          refine bodyPost_ret (v := .tuple #[.int .u8 _, .bool false]) (by simp [results, Tryz.results27, go_sem]; first | rfl | exact ⟨rfl, rfl⟩) rfl ?_
          exact ⟨_, rfl, fun c hc => (by cases hc), below_nq _ _⟩
      · rw [if_neg g1] at i1
        rw [if_neg (fun h => g1 h.2.1)]
        obtain ⟨B, hB⟩ : ∃ B : Int, B = if digV x2 < 16 then (digV x2 : Int) else -1 := ⟨_, rfl⟩
        rw [← hB] at i2
        have I1 := hide i1
        have I2 := hide i2
        clear i1 i2 g1 hB hx
        go_enter Tryz.func27, Tryz.ntmps27
        go_wp2_with fail
        go_quiet (first | (go_at_call 53; exact Calls.quiet_of_same (I1.out _)) | (go_at_call 53; exact Calls.quiet_of_same (I2.out _)))
        go_wp2_with fail
        refine bodyPost_ret (v := .tuple #[.int .u8 _, .bool false]) (by simp [results, Tryz.results27, go_sem]; first | rfl | exact ⟨rfl, rfl⟩) rfl ?_
        exact ⟨_, rfl, fun c hc => (by cases hc), below_nq _ _⟩
    · have e0 : ((x0.toNat : Int) != 120) = true := by
        simp only [bne_iff_ne]; intro e; exact hx (UInt8.toNat_inj.1 (show x0.toNat = (120 : UInt8).toNat from by have : ((120 : UInt8).toNat : Int) = 120 := rfl; omega))
      have hn : ¬ (x0 = 120 ∧ digV x1 < 16 ∧ digV x2 < 16 ∧ plainC (UInt8.ofNat (16 * digV x1 + digV x2)) = false) := fun h => hx h.1
      rw [if_neg hn]
      clear hx hn
      go_enter Tryz.func27, Tryz.ntmps27
      go_wp2_with fail
      refine bodyPost_ret (v := .tuple #[.int .u8 0, .bool false]) (by simp [results, Tryz.results27, go_sem]) rfl ?_
      exact ⟨0, rfl, fun c hc => (by cases hc), Below.refl _ _⟩
/-- A row of bytes of its own, as a string. -/
theorem conv_own {w : World} {base n c : Nat} {A : Option Addr} {l : List UInt8} (h : w.ownsRow base 5 1 (.slice A n c) n (vby (nats l))) (hn : l.length = n) : (convert 56 9 (.slice A n c)).run Tryz.prog w = .ok (.string (blB l)) w := by
  have := run_conv Tryz.prog w 56 5 Tryz.underlying56 Tryz.underlying5 9 Tryz.underlying9 (own_rdk h) c
  rw [nats_length, strOf_nats, hn] at this
  exact this
/-- What a reading of a quoted text answers. -/
def unqV : Option (List UInt8 × List UInt8) → Value
  | some u => .tuple #[.string (blB u.1), .string (blB u.2), .int .i64 0]
  | none => .tuple #[.string ⟨#[]⟩, .string ⟨#[]⟩, .int .i64 7]
theorem bl_drop (s : ByteArray) (k : Nat) : bl (s.extract k s.size) = (bl s).drop k := by
  unfold bl
  rw [ByteArray.data_extract, Array.toList_extract, List.extract_eq_take_drop]
  apply List.take_of_length_le
  rw [List.length_drop, Array.length_toList]
  exact Nat.le_refl _
def strSz : Value → Nat
  | .string s => s.size
  | _ => 0
theorem bl_ne {s : ByteArray} {c : UInt8} {r : List UInt8} (h : bl s = c :: r) : 0 < s.size := by rw [← bl_size, h]; simp
theorem bl_first {s : ByteArray} {c : UInt8} {r : List UInt8} (h : bl s = c :: r) (h0 : 0 < s.size) : (s[0]'h0).toNat = c.toNat := by
  have := bl_at s 0 h0
  rw [h] at this; simp at this; rw [this]
theorem bl_tail {s : ByteArray} {c : UInt8} {r : List UInt8} (h : bl s = c :: r) : bl (s.extract 1 s.size) = r := by rw [bl_drop, h]; rfl
theorem byte_ne {c : UInt8} (k : UInt8) (h : c ≠ k) : ((c.toNat : Int) == (k.toNat : Int)) = false := by
  rw [beq_eq_false_iff_ne]; intro e; exact h (UInt8.toNat_inj.1 (by omega))
theorem vby_snoc (o : List UInt8) (c : UInt8) : vby (nats (o ++ [c])) = vby (nats o) ++ [.int .u8 (c.toNat : Nat)] := by unfold vby nats; simp
theorem byte_neq {c : UInt8} (k : UInt8) (h : c ≠ k) : ((c.toNat : Int) != (k.toNat : Int)) = true := by unfold bne; rw [byte_ne k h]; rfl
set_option maxRecDepth 100000 in
set_option maxHeartbeats 8000000 in
theorem funquote_any (s : ByteArray) (w : World) (hs : s.size ≤ 100000000) : Calls Tryz.prog 13 #[.string s] w fun e w' => e = .returned (unqV (unquoteB (bl s))) ∧ Below w.heap.size w w' := by
  have hem := isEmpty_str s
  cases hb : bl s with
  | nil =>
    have h0 : s.size = 0 := by rw [← bl_size, hb]; rfl
    have he : s.toList.isEmpty = true := by rw [hem, h0]; rfl
    go_enter Tryz.func13, Tryz.ntmps13
    go_wp2_with fail
    refine bodyPost_ret (v := .tuple #[.string ⟨#[]⟩, .string ⟨#[]⟩, .int .i64 7]) (by simp [results, Tryz.results13, go_sem]) rfl ?_
    exact ⟨rfl, Below.refl _ _⟩
  | cons c r =>
    have h0 := bl_ne hb
    have he : s.toList.isEmpty = false := by rw [hem]; exact decide_eq_false (by omega)
    have q0 := bl_first hb h0
    have htl := bl_tail hb
    have hsz : (s.extract 1 s.size).size = r.length := by rw [← bl_size, htl]
    have hrl : r.length < 100000000 := by have := bl_size s; rw [hb] at this; simp at this; omega
    obtain ⟨S1, hS1⟩ : ∃ S1, S1 = s.extract 1 s.size := ⟨_, rfl⟩
    rw [← hS1] at htl hsz
    by_cases hc : c = 34
    · have e0 : ((c.toNat : Int) != 34) = false := by rw [hc]; rfl
      rw [unquoteB_cons, if_pos hc]
      obtain ⟨R, hR⟩ : ∃ R, R = unqB (r.length + 1) [] r := ⟨_, rfl⟩
      rw [← hR]
      have HR := hide hR
      have HT := hide htl
      have HS := hide hS1.symm
      have h1s : (1 : Int) ≤ (s.size : Int) := by omega
      clear hR hc hem htl hS1 hb
      have hS1 := HS.out
      clear HS
      obtain ⟨i0, hi, hz0, hz1, hz2⟩ := info_parts info_byte
      go_enter Tryz.func13, Tryz.ntmps13
      go_wp2_with fail
      go_loopw [0, 5] (fun sv ov wr => ∃ (S : ByteArray) (o : List UInt8) (f : Nat), sv = .string S ∧ Hid ((bl S).length < f) ∧ Hid (R = unqB f o (bl S)) ∧ Hid (wr.ownsRow w.heap.size 5 1 ov o.length (vby (nats o))) ∧ Hid (Below w.heap.size w wr) ∧ o.length + S.size ≤ 100000000) (fun sv _ _ => strSz sv)
      case atStart => exact ⟨S1, [], r.length + 1, rfl, hide (by rw [HT.out]; omega), hide (by rw [HT.out]; exact HR.out), hide (World.ownsRow_nil _ _ _ _), hide (Below.refl _ _), by simp; omega⟩
      case round =>
        clear HR HT hS1 hsz hrl h1s e0 q0 he h0
        obtain ⟨S, o, f, rfl, hf, hR, hown, hbe, hol⟩ := hrel
        have hem := isEmpty_str S
        cases hb : bl S with
        | nil =>
          have h0 : S.size = 0 := by rw [← bl_size, hb]; rfl
          have he : S.toList.isEmpty = true := by rw [hem, h0]; rfl
          have hRn : R = none := by
            rw [hR.out, hb]
            cases f <;> rfl
          have HRn := hide hRn
          clear hRn hem hb h0
          go_wp2_with fail
          refine bodyPost_ret (v := .tuple #[.string ⟨#[]⟩, .string ⟨#[]⟩, .int .i64 7]) (by simp [results, Tryz.results13, go_sem]) rfl ?_
          exact ⟨by rw [HRn.out]; rfl, hbe.out⟩
        | cons c r =>
          have h0 := bl_ne hb
          have he : S.toList.isEmpty = false := by rw [hem]; exact decide_eq_false (by omega)
          have q0 := bl_first hb h0
          have htl := bl_tail hb
          have hsz : (S.extract 1 S.size).size = r.length := by rw [← bl_size, htl]
          have hrl : S.size = r.length + 1 := by rw [← bl_size, hb]; rfl
          obtain ⟨S1, hS1⟩ : ∃ S1, S1 = S.extract 1 S.size := ⟨_, rfl⟩
          rw [← hS1] at htl hsz
          have hs1 : S1.size + 1 ≤ S.size := by omega
          have hs2 : S.size ≤ S1.size + 1 := by omega
          clear hrl hsz
          have h1s : (1 : Int) ≤ (S.size : Int) := by omega
          obtain ⟨f, rfl⟩ : ∃ k, f = k + 1 := ⟨f - 1, by have := hf.out; rw [hb] at this; simp at this; omega⟩
          have hf2 : (bl S1).length < f := by have := hf.out; rw [hb] at this; rw [htl]; simp at this; omega
          have hR2 : R = unqB (f + 1) o (c :: r) := by rw [hR.out, hb]
          have HF2 := hide hf2
          have HT := hide htl
          have HS := hide hS1.symm
          obtain ⟨A, cp, rfl⟩ := own_formk hown.out
          clear hf hR hf2 hem htl hS1 hb
          have hS1 := HS.out
          clear HS
          by_cases c1 : c = 34
          · have e1 : ((c.toNat : Int) == 34) = true := by rw [c1]; rfl
            have hRs : R = some (o, r) := by rw [hR2, unqB, if_pos c1]
            have HRs := hide hRs
            have hcv := conv_own hown.out rfl
            clear hRs hR2 c1
            go_wp2_with fail
            refine bodyPost_ret (v := .tuple #[.string (blB o), .string S1, .int .i64 0]) (by simp [results, Tryz.results13, go_sem]) rfl ?_
            exact ⟨by rw [HRs.out]; unfold unqV; rw [← HT.out]; rfl, hbe.out⟩
          · have e1 : ((c.toNat : Int) == 34) = false := byte_ne 34 c1
            rw [unqB, if_neg c1] at hR2
            by_cases c2 : c = 92
            · have e2 : ((c.toNat : Int) == 92) = true := by rw [c2]; rfl
              rw [if_pos c2] at hR2
              clear c1 c2
              have hes := fun W => escape_any S1 W (by omega)
              rw [HT.out] at hes
              cases hob : escB r with
              | none =>
                rw [hob] at hes hR2
                have HEs := hide hes
                have HR2 := hide hR2
                clear hes hR2 hob
                go_wp2_with (go_at_call 27; refine Calls.mono (HEs.out _) ?_; rintro e w2 ⟨x, rfl, _, hb2⟩; have HB2 := hide hb2; clear hb2)
                refine bodyPost_ret (v := .tuple #[.string ⟨#[]⟩, .string ⟨#[]⟩, .int .i64 7]) (by simp [results, Tryz.results13, go_sem]) rfl ?_
                exact ⟨by rw [HR2.out]; rfl, hbe.out.trans (HB2.out.mono hbe.out.size)⟩
              | some x0 =>
                rw [hob] at hes hR2
                have hr3 : 3 ≤ r.length := by
                  obtain ⟨_, e⟩ := esc_some hob
                  rw [e]; simp
                have hz1 : S1.size = r.length := by rw [← bl_size, HT.out]
                have h3s : (3 : Int) ≤ (S1.size : Int) := by omega
                obtain ⟨S2, hS2⟩ : ∃ S2, S2 = S1.extract 3 S1.size := ⟨_, rfl⟩
                have htl2 : bl S2 = r.drop 3 := by rw [hS2, bl_drop, HT.out]
                have hz2s : S2.size ≤ S1.size := by rw [← bl_size S2, htl2, List.length_drop]; omega
                have HEs := hide hes
                have HR2 := hide hR2
                have HT2 := hide htl2
                have hS2' := hS2.symm
                have hlen : o.length + 1 ≤ 100000000 := by omega
                clear hes hR2 hob hr3 htl2 hS2 hz1
                go_wp2_with (go_at_call 27; refine Calls.mono (HEs.out _) ?_; rintro e w2 ⟨x, rfl, hx, hb2⟩; obtain rfl := hx x0 rfl; have ho2 := own_keep hown.out hb2; have hbe2 := hbe.out.trans (hb2.mono hbe.out.size); have HO2 := hide ho2; have HBE2 := hide hbe2; have hzz := hbe2.size; have hoX : ∀ X : Obj, Hid ((w2.alloc X).drew.ownsRow w.heap.size 5 1 (.slice A o.length cp) o.length (vby (nats o))) := fun X => hide (ho2.alloc X); have hcX : ∀ (u : Value) (t : TypeId), Hid (∀ j x, [u][j]? = some x → (w2.alloc (.cells #[u] t)).drew.cell? ((⟨w2.heap.size, 0, none⟩ : Addr).add j) = some x) := fun u t => hide (cell_one_new w2 u t); clear ho2 hbe2 hb2 hx)
                go_region_law ((refine step_append_lies _ rfl (.tmp 44) (.tmp 46) 56 rfl w.heap.size 5 i0 (.int .u8 0) 1 1 Tryz.underlying56 hi hz0 hz1 hz2 rfl (by decide) (.slice A o.length cp) o.length (vby (nats o)) (by simp [Act.eval]) (hoX _).out ⟨w2.heap.size, 0, none⟩ 1 1 [_] (by simp [Act.eval]) rfl (hcX _ _).out (by intro u hu; simp at hu; subst hu; rfl) (by omega) (by unfold maxLen; omega) (by omega) (by simp; omega) (w2.heap.size + 1) (by simp) ?_; intro g3 cap3 w3 hown3 hgr3 hat3 hlt3; have HO3 := hide hown3; have HG3 := hide hgr3; clear hown3 hgr3 hat3 hlt3))
                all_goals
                  simp [go_sem]
                  go_wp2_with fail
                  go_roundw
                  case rel => exact ⟨S2, o ++ [x0], f, rfl, hide (by rw [HT2.out, List.length_drop]; have := HF2.out; rw [HT.out] at this; omega), hide (by rw [HT2.out]; exact HR2.out), hide (by rw [vby_snoc, List.length_append]; exact HO3.out), hide (((HBE2.out.alloc HBE2.out.size _).drew).grown HG3.out (by simp; omega) (fun g hg => (HO2.out.lt g hg).1)), by simp; omega⟩
                  case measure => show S2.size < S.size; omega
            · have e2 : ((c.toNat : Int) == 92) = false := byte_ne 92 c2
              rw [if_neg c2] at hR2
              have hpl := fun W => plainc_any c W
              obtain ⟨pl, hpe⟩ : ∃ pl, pl = plainC c := ⟨_, rfl⟩
              rw [← hpe] at hpl hR2
              have HPl := hide hpl
              clear hpl hpe c1 c2
              cases pl with
              | true =>
                rw [if_pos rfl] at hR2
                have HR2 := hide hR2
                clear hR2
                have hlen : o.length + 1 ≤ 100000000 := by omega
                go_wp2_with (first
                  | (go_at_call 28; refine Calls.mono (HPl.out _) ?_; rintro e w2 ⟨rfl, rfl⟩)
                  | (at_builtin; refine wpList_append_own _ rfl (.tmp 24) (.tmp 26) 56 rfl w.heap.size 5 i0 (.int .u8 0) 1 1 Tryz.underlying56 hi hz0 hz1 hz2 rfl (by decide) _ _ _ rfl (hown.out.alloc _) ⟨_, 0, none⟩ 1 1 [.int .u8 (c.toNat : Nat)] rfl rfl (cell_one_new _ _ _) (by intro u hu; simp at hu; subst hu; rfl) (by unfold maxLen; omega) (by omega) (by have := hbe.out.size; simp; omega) ?_; intro v3 w3 hown3 hgr3 _; have HO3 := hide hown3; have HG3 := hide hgr3; clear hown3 hgr3))
                exact ⟨⟨S1, o ++ [c], f, rfl, HF2, hide (by rw [HT.out]; exact HR2.out), hide (by rw [vby_snoc, List.length_append]; exact HO3.out), hide ((hbe.out.alloc hbe.out.size _).grown HG3.out (by have := hbe.out.size; simp; omega) (fun g hg => (hown.out.lt g hg).1)), by simp; omega⟩, by show S1.size < S.size; omega⟩
              | false =>
                rw [if_neg (by decide)] at hR2
                have HR2 := hide hR2
                clear hR2
                go_wp2_with (go_at_call 28; refine Calls.mono (HPl.out _) ?_; rintro e w2 ⟨rfl, rfl⟩)
                refine bodyPost_ret (v := .tuple #[.string ⟨#[]⟩, .string ⟨#[]⟩, .int .i64 7]) (by simp [results, Tryz.results13, go_sem]) rfl ?_
                exact ⟨by rw [HR2.out]; rfl, hbe.out⟩
    · have e0 : ((c.toNat : Int) != 34) = true := byte_neq 34 hc
      rw [unquoteB_cons, if_neg hc]
      clear hc hem htl hS1 hb
      go_enter Tryz.func13, Tryz.ntmps13
      go_wp2_with fail
      refine bodyPost_ret (v := .tuple #[.string ⟨#[]⟩, .string ⟨#[]⟩, .int .i64 7]) (by simp [results, Tryz.results13, go_sem]) rfl ?_
      exact ⟨rfl, Below.refl _ _⟩
end Go.Proofs.YtahnnebpadbopaaGreatDoor
/- Walk: wringerref32.Unquote. -/
namespace Go.Proofs.YtahnnebpadbopaaGreatDoor
open Go.RowKit

theorem bl_take (s : ByteArray) (k : Nat) : bl (s.extract 0 k) = (bl s).take k := by
  unfold bl
  rw [ByteArray.data_extract, Array.toList_extract, List.extract_eq_take_drop]
  simp
theorem bl_inj {s t : ByteArray} (h : bl s = bl t) : s = t := by
  apply ByteArray.ext
  exact Array.ext' h
theorem toL_eq {V Q : ByteArray} : (V.toList == Q.toList) = decide (V = Q) := by
  rw [Lib.toList_data, Lib.toList_data]
  by_cases h : V = Q
  · subst h; simp
  · rw [decide_eq_false h, beq_eq_false_iff_ne]
    exact fun e => h (bl_inj e)
theorem getD_at (s : ByteArray) (k : Nat) (h : k < s.size) : (s[k]'h) = (bl s).getD k 0 := by
  rw [List.getD_eq_getElem?_getD, bl_at s k h]; rfl
theorem digV_le (c : UInt8) : digV c ≤ 16 := by unfold digV; split; omega; split; omega; omega
set_option maxRecDepth 100000 in
set_option maxHeartbeats 8000000 in
theorem runquote_any (s : ByteArray) (w : World) (hs : s.size ≤ 100000000) : Calls Tryz.prog 14 #[.string s] w fun e w' => e = .returned (unqV (runquoteB (bl s))) ∧ Below w.heap.size w w' := by
  have hem := isEmpty_str s
  by_cases h0 : s.size = 0
  · have he : s.toList.isEmpty = true := by rw [hem, h0]; rfl
    have hb : bl s = [] := List.eq_nil_of_length_eq_zero (by rw [bl_size, h0])
    rw [hb]
    clear hem hb h0
    go_enter Tryz.func14, Tryz.ntmps14
    go_wp2_with fail
    refine bodyPost_ret (v := .tuple #[.string ⟨#[]⟩, .string ⟨#[]⟩, .int .i64 7]) (by simp [results, Tryz.results14, go_sem]) rfl ?_
    exact ⟨rfl, Below.refl _ _⟩
  · have he : s.toList.isEmpty = false := by rw [hem]; exact decide_eq_false h0
    have hp : 0 < s.size := by omega
    obtain ⟨c, hc⟩ : ∃ c, c = s[0]'hp := ⟨_, rfl⟩
    have q0 : (s[0]'hp).toNat = c.toNat := by rw [hc]
    have hhd : (bl s).head? = some c := by rw [List.head?_eq_getElem?, bl_at s 0 hp, hc]
    clear hc hem
    by_cases h34 : c = 34
    · have e0 : ((c.toNat : Int) != 34) = false := by rw [h34]; rfl
      obtain ⟨R, hR⟩ : ∃ R, R = runquoteB (bl s) := ⟨_, rfl⟩
      rw [← hR]
      unfold runquoteB at hR
      rw [if_pos (by rw [hhd, h34])] at hR
      have HR := hide hR
      obtain ⟨i0, hi, hz0, hz1, hz2⟩ := info_parts info_byte
      have hbs := bl_size s
      have HBs := hide hbs
      clear hR hhd h34 hbs
      go_enter Tryz.func14, Tryz.ntmps14
      go_wp2_with fail
      go_loopw [5, 6] (fun ov iv wr => ∃ (k : Nat) (o : List UInt8) (f : Nat), iv = .int .i64 k ∧ k ≤ s.size ∧ Hid (s.size - k < f) ∧ Hid (R = runqB (bl s) f k o) ∧ Hid (wr.ownsRow w.heap.size 5 1 ov o.length (vby (nats o))) ∧ Hid (Below w.heap.size w wr) ∧ o.length ≤ k) (fun _ iv _ => s.size - (intOf iv).toNat)
      case atStart => exact ⟨1, [], (bl s).length + 1, rfl, by omega, hide (by rw [HBs.out]; omega), HR, hide (World.ownsRow_nil _ _ _ _), hide (Below.refl _ _), by simp⟩
      case round =>
        clear HR e0 q0
        obtain ⟨k, o, f, rfl, hk, hf, hR, hown, hbe, hol⟩ := hrel
        obtain ⟨f, rfl⟩ : ∃ m, f = m + 1 := ⟨f - 1, by have := hf.out; omega⟩
        obtain ⟨A, cp, rfl⟩ := own_formk hown.out
        by_cases hlt : k < s.size
        · obtain ⟨c, hc⟩ : ∃ c, c = s[k]'hlt := ⟨_, rfl⟩
          have q0 : (s[k]'hlt).toNat = c.toNat := by rw [hc]
          have hck : (bl s)[k]? = some c := by rw [hc]; exact bl_at s k hlt
          have hR2 := hR.out
          rw [runqB, hck] at hR2
          simp only at hR2
          clear hc hck hR
          by_cases c1 : c = 34
          · have e1 : ((c.toNat : Int) == 34) = true := by rw [c1]; rfl
            rw [if_pos c1] at hR2
            have hcv := conv_own hown.out rfl
            have hzo : (blB o).size ≤ 100000000 := by rw [← bl_size, show bl (blB o) = o from rfl]; omega
            have hq := fun W => rquote_any (blB o) W hzo
            rw [show bl (blB o) = o from rfl] at hq
            obtain ⟨V, hV⟩ : ∃ V, V = blB (quoteB o) := ⟨_, rfl⟩
            obtain ⟨Q, hQ⟩ : ∃ Q, Q = s.extract 0 (k + 1) := ⟨_, rfl⟩
            obtain ⟨P, hP⟩ : ∃ P, P = s.extract (k + 1) s.size := ⟨_, rfl⟩
            have hbP : bl P = (bl s).drop (k + 1) := by rw [hP, bl_drop]
            rw [← hV] at hq
            have HQ := hide hq
            have hQ' := hQ.symm
            have hP' := hP.symm
            have hVQ : (V.toList == Q.toList) = decide (V = Q) := toL_eq
            have hiff : quoteB o = (bl s).take (k + 1) ↔ V = Q := by
              rw [hV, hQ]
              constructor
              · intro e; exact bl_inj (by rw [bl_take, ← e]; rfl)
              · intro e; have := congrArg bl e; rw [bl_take] at this; exact this
            clear hV hQ hP hq c1 hzo
            by_cases hVe : V = Q
            · rw [decide_eq_true hVe] at hVQ
              rw [if_pos (hiff.2 hVe), ← hbP] at hR2
              have HR2 := hide hR2
              clear hiff hVe hR2 hbP
              go_wp2_with fail
              go_quiet ((go_at_call 16; exact Calls.quiet_of (HQ.out _)))
              go_wp2_with fail
              go_quiet (fail)
              go_wp2_with fail
              refine bodyPost_ret (v := .tuple #[.string (blB o), .string P, .int .i64 0]) (by simp [results, Tryz.results14, go_sem]) rfl ?_
              exact ⟨by rw [HR2.out]; rfl, by first | exact (hbe.out.trans (below_nq _ _)).trans (below_nq _ _) | exact hbe.out.trans (below_nq _ _)⟩
            · rw [decide_eq_false hVe] at hVQ
              rw [if_neg (fun h => hVe (hiff.1 h))] at hR2
              have HR2 := hide hR2
              clear hiff hVe hR2 hbP
              go_wp2_with fail
              go_quiet ((go_at_call 16; exact Calls.quiet_of (HQ.out _)))
              go_wp2_with fail
              refine bodyPost_ret (v := .tuple #[.string ⟨#[]⟩, .string ⟨#[]⟩, .int .i64 7]) (by simp [results, Tryz.results14, go_sem]) rfl ?_
              exact ⟨by rw [HR2.out]; rfl, by first | exact (hbe.out.trans (below_nq _ _)).trans (below_nq _ _) | exact hbe.out.trans (below_nq _ _)⟩
          · have e1 : ((c.toNat : Int) == 34) = false := byte_ne 34 c1
            rw [if_neg c1] at hR2
            by_cases c2 : c = 92
            · have e2 : ((c.toNat : Int) != 92) = false := by rw [c2]; rfl
              rw [if_neg (by simp [c2])] at hR2
              have hl := bl_size s
              rw [hl] at hR2
              clear hl c1 c2
              by_cases h3 : s.size ≤ k + 3
              · have h3i : (s.size : Int) ≤ (k : Int) + 3 := by omega
                rw [if_pos (.inl h3)] at hR2
                have HR2 := hide hR2
                clear hR2 h3
                go_wp2_with fail
                refine bodyPost_ret (v := .tuple #[.string ⟨#[]⟩, .string ⟨#[]⟩, .int .i64 7]) (by simp [results, Tryz.results14, go_sem]) rfl ?_
                exact ⟨by rw [HR2.out]; rfl, hbe.out⟩
              · have h3i : ¬ (s.size : Int) ≤ (k : Int) + 3 := by omega
                have l1 : k + 1 < s.size := by omega
                have l2 : k + 2 < s.size := by omega
                have l3 : k + 3 < s.size := by omega
                obtain ⟨x1, hx1⟩ : ∃ x, x = (bl s).getD (k + 1) 0 := ⟨_, rfl⟩
                obtain ⟨x2, hx2⟩ : ∃ x, x = (bl s).getD (k + 2) 0 := ⟨_, rfl⟩
                obtain ⟨x3, hx3⟩ : ∃ x, x = (bl s).getD (k + 3) 0 := ⟨_, rfl⟩
                have q1 : (s[k + 1]'l1).toNat = x1.toNat := by rw [getD_at s (k + 1) l1, hx1]
                have q2 : (s[k + 2]'l2).toNat = x2.toNat := by rw [getD_at s (k + 2) l2, hx2]
                have q3 : (s[k + 3]'l3).toNat = x3.toNat := by rw [getD_at s (k + 3) l3, hx3]
                rw [← hx1, ← hx2, ← hx3] at hR2
                clear hx1 hx2 hx3
                by_cases hx : x1 = 120
                · have e3 : ((x1.toNat : Int) != 120) = false := by rw [hx]; rfl
                  rw [if_neg (by intro h; rcases h with h | h; exact h3 h; exact h hx)] at hR2
                  have b2 : digV x2 ≤ 16 := digV_le x2
                  have b3 : digV x3 ≤ 16 := digV_le x3
                  clear h3 hx
                  obtain ⟨k2, hk2⟩ : ∃ k2, k2 = k + 2 := ⟨_, rfl⟩
                  obtain ⟨k3, hk3⟩ : ∃ k3, k3 = k + 3 := ⟨_, rfl⟩
                  have E2 := hide (show IntKind.i64.wrap ((k : Int) + 2) = (k2 : Int) by rw [IntWalk.i64_in _ ⟨by omega, by omega⟩]; omega)
                  have E3 := hide (show IntKind.i64.wrap ((k : Int) + 3) = (k3 : Int) by rw [IntWalk.i64_in _ ⟨by omega, by omega⟩]; omega)
                  have l2' : k2 < s.size := by omega
                  have l3' : k3 < s.size := by omega
                  have q2' : (s[k2]'l2').toNat = x2.toNat := by subst hk2; exact q2
                  have q3' : (s[k3]'l3').toNat = x3.toNat := by subst hk3; exact q3
                  have HK3 := hide hk3
                  clear hk2 hk3 q2 q3 l2 l3
                  by_cases g2 : 15 < digV x2
                  · have g2i : (15 : Int) < (digV x2 : Int) := by omega
                    rw [if_pos (.inl g2)] at hR2
                    have HR2 := hide hR2
                    clear hR2 g2
                    go_wp2_with fail
                    have e2k := E2.out
                    have e3k := E3.out
                    go_quiet ((go_at_call 29; exact Calls.quiet_of_same (digit_any _ _)))
                    go_wp2_with (first | (go_at_call 29; refine Calls.mono (digit_any _ _) ?_; rintro e w2 ⟨rfl, rfl⟩))
                    refine bodyPost_ret (v := .tuple #[.string ⟨#[]⟩, .string ⟨#[]⟩, .int .i64 7]) (by simp [results, Tryz.results14, go_sem]) rfl ?_
                    exact ⟨by rw [HR2.out]; rfl, hbe.out.trans (below_nq _ _)⟩
                  · have g2i : ¬ (15 : Int) < (digV x2 : Int) := by omega
                    by_cases g3 : 15 < digV x3
                    · have g3i : (15 : Int) < (digV x3 : Int) := by omega
                      rw [if_pos (.inr g3)] at hR2
                      have HR2 := hide hR2
                      clear hR2 g3 g2
                      go_wp2_with fail
                      have e2k := E2.out
                      have e3k := E3.out
                      go_quiet ((go_at_call 29; exact Calls.quiet_of_same (digit_any _ _)))
                      go_wp2_with (first | (go_at_call 29; refine Calls.mono (digit_any _ _) ?_; rintro e w2 ⟨rfl, rfl⟩))
                      refine bodyPost_ret (v := .tuple #[.string ⟨#[]⟩, .string ⟨#[]⟩, .int .i64 7]) (by simp [results, Tryz.results14, go_sem]) rfl ?_
                      exact ⟨by rw [HR2.out]; rfl, hbe.out.trans (below_nq _ _)⟩
                    · have g3i : ¬ (15 : Int) < (digV x3 : Int) := by omega
                      rw [if_neg (by omega)] at hR2
                      obtain ⟨c0, hc0⟩ : ∃ c0, c0 = UInt8.ofNat (16 * digV x2 + digV x3) := ⟨_, rfl⟩
                      have Hv := hide (show (16 * (digV x2 : Int) + (digV x3 : Int)) = (c0.toNat : Int) by rw [hc0, UInt8.toNat_ofNat']; omega)
                      have hlen : o.length + 1 ≤ 100000000 := by omega
                      rw [← hc0] at hR2
                      have HR2 := hide hR2
                      clear hR2 g3 g2 hc0
                      go_wp2_with fail
                      have e2k := E2.out
                      have e3k := E3.out
                      go_quiet ((go_at_call 29; exact Calls.quiet_of_same (digit_any _ _)))
                      go_wp2_with (first | (go_at_call 29; refine Calls.mono (digit_any _ _) ?_; rintro e w2 ⟨rfl, rfl⟩) | (at_builtin; refine wpList_append_own _ rfl (.tmp 88) (.tmp 91) 56 rfl w.heap.size 5 i0 (.int .u8 0) 1 1 Tryz.underlying56 hi hz0 hz1 hz2 rfl (by decide) _ _ _ rfl ((show World.ownsRow (wr.drewN nq) w.heap.size 5 1 _ o.length (vby (nats o)) from hown.out).alloc _) ⟨_, 0, none⟩ 1 1 [.int .u8 (16 * (digV x2 : Int) + (digV x3 : Int))] rfl rfl (cell_one_new _ _ _) (by intro u hu; simp at hu; subst hu; rfl) (by unfold maxLen; omega) (by omega) (by have := hbe.out.size; simp; omega) ?_; intro v3 w3 hown3 hgr3 _; rw [Hv.out] at hown3; have HO3 := hide hown3; have HG3 := hide hgr3; clear hown3 hgr3))
                      have hk3 := HK3.out
                      exact ⟨⟨k + 4, o ++ [c0], f, by simp; omega, by omega, hide (by have := hf.out; omega), HR2, hide (by rw [vby_snoc, List.length_append]; exact HO3.out), hide (((hbe.out.trans (below_nq _ _)).alloc (by have := hbe.out.size; exact this) _).grown HG3.out (by have := hbe.out.size; simp; omega) (fun g hg => (hown.out.lt g hg).1)), by simp; omega⟩, by simp [intOf]; omega⟩
                · have e3 : ((x1.toNat : Int) != 120) = true := byte_neq 120 hx
                  rw [if_pos (.inr hx)] at hR2
                  have HR2 := hide hR2
                  clear hR2 h3 hx
                  go_wp2_with fail
                  refine bodyPost_ret (v := .tuple #[.string ⟨#[]⟩, .string ⟨#[]⟩, .int .i64 7]) (by simp [results, Tryz.results14, go_sem]) rfl ?_
                  exact ⟨by rw [HR2.out]; rfl, hbe.out⟩
            · have e2 : ((c.toNat : Int) != 92) = true := byte_neq 92 c2
              rw [if_pos c2] at hR2
              have HR2 := hide hR2
              have hlen : o.length + 1 ≤ 100000000 := by omega
              clear hR2 c1 c2
              go_wp2_with (at_builtin; refine wpList_append_own _ rfl (.tmp 44) (.tmp 48) 56 rfl w.heap.size 5 i0 (.int .u8 0) 1 1 Tryz.underlying56 hi hz0 hz1 hz2 rfl (by decide) _ _ _ rfl (hown.out.alloc _) ⟨_, 0, none⟩ 1 1 [.int .u8 (c.toNat : Nat)] rfl rfl (cell_one_new _ _ _) (by intro u hu; simp at hu; subst hu; rfl) (by unfold maxLen; omega) (by omega) (by have := hbe.out.size; simp; omega) ?_; intro v3 w3 hown3 hgr3 _; have HO3 := hide hown3; have HG3 := hide hgr3; clear hown3 hgr3)
              exact ⟨⟨k + 1, o ++ [c], f, by simp, by omega, hide (by have := hf.out; omega), HR2, hide (by rw [vby_snoc, List.length_append]; exact HO3.out), hide ((hbe.out.alloc hbe.out.size _).grown HG3.out (by have := hbe.out.size; simp; omega) (fun g hg => (hown.out.lt g hg).1)), by simp; omega⟩, by simp [intOf]; omega⟩
        · have hRn : R = none := by
            rw [hR.out, runqB, List.getElem?_eq_none (by rw [bl_size]; omega)]
          have HRn := hide hRn
          clear hRn hR
          obtain rfl : k = s.size := by omega
          go_wp2_with fail
          refine bodyPost_ret (v := .tuple #[.string ⟨#[]⟩, .string ⟨#[]⟩, .int .i64 7]) (by simp [results, Tryz.results14, go_sem]) rfl ?_
          exact ⟨by rw [HRn.out]; rfl, hbe.out⟩
    · have e0 : ((c.toNat : Int) != 34) = true := byte_neq 34 h34
      have hR : runquoteB (bl s) = none := by unfold runquoteB; rw [if_neg (by rw [hhd]; simpa using h34)]
      rw [hR]
      clear hR hhd h34
      go_enter Tryz.func14, Tryz.ntmps14
      go_wp2_with fail
      refine bodyPost_ret (v := .tuple #[.string ⟨#[]⟩, .string ⟨#[]⟩, .int .i64 7]) (by simp [results, Tryz.results14, go_sem]) rfl ?_
      exact ⟨rfl, Below.refl _ _⟩
end Go.Proofs.YtahnnebpadbopaaGreatDoor
