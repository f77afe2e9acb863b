/- Lemmas for the row: RecsA, RecsB, RecsC, RecsD, RecsH, FsP. -/
import Derived.Test.YtmopegpkoedgbaaGreatDoorM02
import Derived.Test.YtmopegpkoedgbaaGreatDoorM10
import Derived.Test.YtmopegpkoedgbaaGreatDoorM13
import Derived.Test.YtmopegpkoedgbaaGreatDoorM14
set_option linter.unusedVariables false
set_option linter.unusedSimpArgs false
/- Walks: recs.each, Need, padded, byteOf. -/
namespace Go.Proofs.YtmopegpkoedgbaaGreatDoor
open Go.RowKit Go.Sort

theorem each_any (n : Nat) (w : World) (hn : n ≤ 1000000) : Calls Tryz.prog 87 #[.int .i64 n] w fun e w' => e = .returned (.int .i64 (eachW n : Nat)) ∧ w' = w := by
  by_cases h : n = 0
  · subst h
    go_enter Tryz.func87, Tryz.ntmps87
    go_wp2_with fail
    go_ret
    exact ⟨rfl, rfl⟩
  · have he : eachW n = 5 * n := by unfold eachW; rw [if_neg h]
    have hi : ¬ (n : Int) = 0 := by omega
    have hw : IntKind.i64.wrap (5 * (n : Int)) = ((5 * n : Nat) : Int) := by rw [IntWalk.i64_in _ ⟨by omega, by omega⟩]; omega
    rw [he]
    clear he
    go_enter Tryz.func87, Tryz.ntmps87
    go_wp2_with fail
    go_ret
    exact ⟨ret_int (by first | rfl | omega), rfl⟩
theorem need_any (width : Int) (count : Nat) (w : World) : Calls Tryz.prog 85 #[.int .i64 width, .int .u64 count] w fun e w' => e = .returned (.tuple #[.int .i64 ((needW width count).1 : Nat), .int .i64 (needW width count).2]) ∧ w' = w := by
  by_cases h1 : width < 0
  · have hn : needW width count = (0, 1) := by unfold needW; rw [if_pos (.inl h1)]
    rw [hn]
    clear hn
    go_enter Tryz.func85, Tryz.ntmps85
    go_wp2_with fail
    refine bodyPost_ret (v := .tuple #[.int .i64 0, .int .i64 1]) (by simp [results, Tryz.results85, go_sem]) rfl ?_
    exact ⟨rfl, rfl⟩
  by_cases h2 : 8 < width
  · have hn : needW width count = (0, 1) := by unfold needW; rw [if_pos (.inr (.inl h2))]
    rw [hn]
    clear hn
    go_enter Tryz.func85, Tryz.ntmps85
    go_wp2_with fail
    refine bodyPost_ret (v := .tuple #[.int .i64 0, .int .i64 1]) (by simp [results, Tryz.results85, go_sem]) rfl ?_
    exact ⟨rfl, rfl⟩
  by_cases h3 : 65536 < count
  · have hn : needW width count = (0, 1) := by unfold needW; rw [if_pos (.inr (.inr h3))]
    have h3I : (65536 : Int) < (count : Int) := by omega
    rw [hn]
    clear hn
    go_enter Tryz.func85, Tryz.ntmps85
    go_wp2_with fail
    refine bodyPost_ret (v := .tuple #[.int .i64 0, .int .i64 1]) (by simp [results, Tryz.results85, go_sem]) rfl ?_
    exact ⟨rfl, rfl⟩
  · obtain ⟨n, rfl⟩ : ∃ n : Nat, width = (n : Int) := ⟨width.toNat, by omega⟩
    have hn : needW (n : Int) count = (1 + (eachW n * count + 63) / 64, 0) := by unfold needW; rw [if_neg (by omega), Int.toNat_natCast]
    rw [hn]
    have he := fun W => each_any n W (by omega)
    have hE : eachW n ≤ 40 := by unfold eachW; split <;> omega
    obtain ⟨E, hEe⟩ : ∃ E, E = eachW n := ⟨_, rfl⟩
    rw [← hEe] at he hE ⊢
    have HE := hide he
    have h3I : ¬ (65536 : Int) < (count : Int) := by omega
    have hm : E * count ≤ 40 * 65536 := Nat.mul_le_mul hE (by omega)
    have hc : IntKind.i64.wrap (count : Int) = (count : Int) := IntWalk.i64_in _ ⟨by omega, by omega⟩
    obtain ⟨M, hM⟩ : ∃ M, M = E * count := ⟨_, rfl⟩
    rw [← hM] at hm ⊢
    have hMi : (E : Int) * (count : Int) = (M : Int) := by rw [hM]; push_cast; rfl
    have hw1 : IntKind.i64.wrap ((E : Int) * (count : Int)) = (M : Int) := by rw [hMi, IntWalk.i64_in _ ⟨by omega, by omega⟩]
    clear he hn hEe hM
    go_enter Tryz.func85, Tryz.ntmps85
    go_wp2_with (go_at_call 87; refine Calls.mono (HE.out _) ?_; rintro e w1 ⟨rfl, rfl⟩)
    refine bodyPost_ret (v := .tuple #[.int .i64 ((1 + (M + 63) / 64 : Nat) : Int), .int .i64 0]) (by simp [results, Tryz.results85, go_sem]; omega) rfl ?_
    exact ⟨rfl, rfl⟩
theorem padded_any (s : ByteArray) (w : World) (hs : s.size ≤ 100000000) : Calls Tryz.prog 111 #[.string s] w fun e w' => e = .returned (.string (padB s)) ∧ Below w.heap.size w w' := by
  have hrp := fun (k : Nat) (W : World) (h : k ≤ 64) => repeat_zero k W (by omega)
  by_cases h : 0 < s.size % 64
  · have hp : padB s = s ++ zerosB (64 - s.size % 64) := by unfold padB; rw [if_pos h]
    rw [hp]
    obtain ⟨r, hr⟩ : ∃ r, r = s.size % 64 := ⟨_, rfl⟩
    have hrI : (s.size : Int) % 64 = (r : Int) := by omega
    rw [← hr] at h ⊢
    have hr64 : r < 64 := by omega
    have HR := hide (hrp (64 - r) · (by omega))
    have hI : (0 : Int) < (r : Int) := by omega
    have hw : (64 : Int) - (r : Int) = ((64 - r : Nat) : Int) := by omega
    obtain ⟨k, hk⟩ : ∃ k, k = 64 - r := ⟨_, rfl⟩
    rw [← hk] at hw HR ⊢
    obtain ⟨Z, hZ⟩ : ∃ Z, Z = zerosB k := ⟨_, rfl⟩
    have hZs : Z.size = k := by rw [hZ, zerosB_size]
    rw [← hZ] at HR ⊢
    have n1 : (9223372036854775807 < s.size + Z.size) = False := eq_false (by omega)
    have n2 : s.size + Z.size ≤ 9223372036854775807 := by omega
    clear hrp hp hr hk hZ hZs
    go_enter Tryz.func111, Tryz.ntmps111
    go_wp2_with (go_at_call 153; refine Calls.mono (HR.out _) ?_; rintro e w1 ⟨rfl, hb1⟩; have HB1 := hide hb1; clear hb1)
    go_ret
    exact ⟨rfl, HB1.out⟩
  · have hp : padB s = s := by unfold padB; rw [if_neg h]
    rw [hp]
    have hrI : (s.size : Int) % 64 = 0 := by omega
    clear hrp hp
    go_enter Tryz.func111, Tryz.ntmps111
    go_wp2_with fail
    go_ret
    exact ⟨rfl, Below.refl _ _⟩
theorem dw_nil (p : UInt8 → Bool) : ∀ l : List UInt8, l.dropWhile p = [] ↔ ∀ x ∈ l, p x = true
  | [] => by simp
  | a :: t => by
    rw [List.dropWhile_cons]
    cases h : p a with
    | true => simp [h, dw_nil p t]
    | false => simp [h]
theorem dw_all (p : UInt8 → Bool) : ∀ l : List UInt8, (∀ x ∈ l.dropWhile p, p x = true) → ∀ x ∈ l, p x = true
  | [], _ => by simp
  | a :: t, h => by
    rw [List.dropWhile_cons] at h
    cases ha : p a with
    | true =>
      rw [ha] at h
      have := dw_all p t h
      intro x hx
      rcases List.mem_cons.1 hx with rfl | hx
      · exact ha
      · exact this x hx
    | false =>
      rw [ha] at h
      have := h a (by simp)
      rw [ha] at this; cases this
/-- Bytes that are all 0, by the library's trim. -/
theorem trim_zeros (l : List UInt8) : (Lib.trimB l 0 = []) ↔ ∀ c ∈ l, c = 0 := by
  unfold Lib.trimB Lib.trimLeftB Lib.trimRightB
  rw [dw_nil]
  constructor
  · intro h c hc
    have := dw_all (· == 0) l.reverse (fun x hx => h x (List.mem_reverse.2 hx)) c (List.mem_reverse.2 hc)
    simpa using this
  · intro h x hx
    have h2 : l.reverse.dropWhile (· == 0) = [] := (dw_nil _ _).2 fun y hy => by simp [h y (List.mem_reverse.1 hy)]
    rw [h2] at hx; cases hx
theorem strL_data (s : ByteArray) : strL s = s.data.toList.map UInt8.toNat := by
  apply List.ext_getElem?
  intro i
  by_cases h : i < s.size
  · rw [strL_get h, List.getElem?_map, Array.getElem?_toList]
    have : s.data[i]? = some (s[i]'h) := Array.getElem?_eq_getElem (xs := s.data) h
    rw [this]
    show some (byt s i) = some ((s[i]'h).toNat)
    rw [byt_of]
  · rw [List.getElem?_eq_none (by simpa using h), List.getElem?_eq_none (by rw [List.length_map, ← Lib.size_eq]; omega)]
theorem zeros_any0 (s : ByteArray) (w : World) (hs : s.size ≤ 100000000) : Calls Tryz.prog 88 #[.string s] w fun e w' => e = .returned (.bool (zerosL (strL s))) ∧ Below w.heap.size w w' := by
  have ht := fun W => Tryz.strings_Trim_one s 0 (by decide) W (by omega)
  obtain ⟨T, hT⟩ : ∃ T : ByteArray, T = ⟨(Lib.trimB s.data.toList 0).toArray⟩ := ⟨_, rfl⟩
  rw [← hT] at ht
  have he : T.toList.isEmpty = zerosL (strL s) := by
    have h1 : T.toList = Lib.trimB s.data.toList 0 := by rw [Lib.toList_data, hT]
    rw [h1, strL_data]
    unfold zerosL
    by_cases h : ∀ c ∈ s.data.toList, c = 0
    · have h2 := (trim_zeros _).2 h
      rw [h2]
      symm
      show (List.map UInt8.toNat s.data.toList).all _ = true
      rw [List.all_eq_true]
      intro x hx
      obtain ⟨c, hc, rfl⟩ := List.mem_map.1 hx
      rw [h c hc]; rfl
    · have h2 : ¬ Lib.trimB s.data.toList 0 = [] := fun e => h ((trim_zeros _).1 e)
      have h3 : (Lib.trimB s.data.toList 0).isEmpty = false := by simp [h2]
      rw [h3]
      symm
      cases ha : (List.map UInt8.toNat s.data.toList).all (fun c => decide (c = 0)) with
      | false => rfl
      | true =>
        refine absurd (fun c hc => ?_) h
        have := List.all_eq_true.1 ha c.toNat (List.mem_map_of_mem hc)
        have h4 : c.toNat = 0 := of_decide_eq_true this
        exact UInt8.toNat_inj.1 h4
  rw [← he]
  have HT := hide ht
  clear ht hT he
  go_enter Tryz.func88, Tryz.ntmps88
  go_wp2_with (go_at_call 130; refine Calls.mono (HT.out _) ?_; rintro e w1 ⟨rfl, hw⟩; have HW := hide hw; clear hw)
  go_ret
  refine ⟨?_, ?_⟩
  · first | rfl | (congr 1; congr 1; cases T.toList <;> rfl)
  · rcases HW.out with rfl | rfl
    · exact Below.refl _ _
    · exact (Below.refl _ _).drew
set_option maxRecDepth 100000 in
theorem frame_any (s : ByteArray) (w : World) (hs : s.size ≤ 65536) : Calls Tryz.prog 154 #[.string s] w fun e w' => e = .returned (.tuple #[.string (s ++ strOf (tail4 (crcS (strL s)))), .int .i64 0]) ∧ Below w.heap.size w w' := by
  have hsum := sum_one w.heap.size 0 1 s (w.alloc (.cells #[.string s] 9)) (((Bk.new w 9 #[.string s]).cell 0).trans rfl) (by omega)
  have htl := fun W => tail_any (crcS (strL s)) W (crcS_lt _)
  obtain ⟨C, hC⟩ : ∃ C, C = crcS (strL s) := ⟨_, rfl⟩
  rw [← hC] at hsum htl ⊢
  obtain ⟨T, hT⟩ : ∃ T, T = strOf (tail4 C) := ⟨_, rfl⟩
  have hTs : T.size = 4 := by rw [hT, strOf_size]; rfl
  rw [← hT] at htl ⊢
  have HS := hide hsum
  have HT := hide htl
  have n1 : (9223372036854775807 < s.size + T.size) = False := eq_false (by omega)
  have n2 : s.size + T.size ≤ 9223372036854775807 := by omega
  have n3 : ¬ (65536 : Int) < (s.size : Int) := by omega
  clear hsum htl hC hT hTs
  go_enter Tryz.func154, Tryz.ntmps154
  go_wp2_with (first
    | (go_at_call 195; refine Calls.mono HS.out ?_; rintro e w1 ⟨rfl, rfl⟩)
    | (go_at_call 194; refine Calls.mono (HT.out _) ?_; rintro e w2 ⟨rfl, hb2⟩; have HB2 := hide hb2; clear hb2))
  refine bodyPost_ret (v := .tuple #[.string (s ++ T), .int .i64 0]) (by simp [results, Tryz.results154, go_sem]) rfl ?_
  exact ⟨rfl, btrans (ba1 _ _) HB2.out⟩
end Go.Proofs.YtmopegpkoedgbaaGreatDoor
/- Walks: recs.byteOf, crc.Open at twelve bytes. -/
namespace Go.Proofs.YtmopegpkoedgbaaGreatDoor
open Go.RowKit Go.Sort

theorem byteOf_any (n : Nat) (w : World) (hn : n < 256) : Calls Tryz.prog 155 #[.int .i64 n] w fun e w' => e = .returned (.slice (some ⟨w.heap.size, 0, none⟩) 1 1) ∧ w' = w.alloc (.cells #[.int .u8 n] 5) := by
  have hw : IntKind.u8.wrap (n : Int) = (n : Int) := by rw [IntKind.wrap_u8]; omega
  go_enter Tryz.func155, Tryz.ntmps155
  go_wp2_with fail
  go_ret
  exact ⟨rfl, rfl⟩
set_option maxRecDepth 100000 in
set_option maxHeartbeats 4000000 in
theorem crcOpen_any (f : ByteArray) (w : World) (hf : f.size = 12) : Calls Tryz.prog 159 #[.string f] w fun e w' => e = .returned (if tail4 (crcS (strL (f.extract 0 8))) = strL (f.extract 8 12) then .tuple #[.string (f.extract 0 8), .int .i64 0] else .tuple #[.string ⟨#[]⟩, .int .i64 6]) ∧ Below w.heap.size w w' := by
  obtain ⟨X, hX⟩ : ∃ X, f.extract 0 8 = X := ⟨_, rfl⟩
  obtain ⟨Y, hY⟩ : ∃ Y, f.extract 8 12 = Y := ⟨_, rfl⟩
  have hXs : X.size = 8 := by rw [← hX, ByteArray.size_extract]; omega
  have hsum := sum_one w.heap.size 0 1 X (w.alloc (.cells #[.string X] 9)).drew (((Bk.new w 9 #[.string X]).cell 0).trans rfl) (by omega)
  have htl := fun W => tail_any (crcS (strL X)) W (crcS_lt _)
  rw [hX, hY]
  obtain ⟨C, hC⟩ : ∃ C, C = crcS (strL X) := ⟨_, rfl⟩
  have hCl : C < 4294967296 := by rw [hC]; exact crcS_lt _
  rw [← hC] at hsum htl ⊢
  obtain ⟨T, hT⟩ : ∃ T, T = strOf (tail4 C) := ⟨_, rfl⟩
  have hcond : (tail4 C = strL Y) ↔ T.toList = Y.toList := by
    constructor
    · intro h; rw [hT, h, strOf_strL]
    · intro h
      have h2 := toList_inj' h
      rw [← h2, hT, strL_of (tail4_lt C)]
  rw [← hT] at htl
  obtain ⟨R, hR⟩ : ∃ R, R = (if tail4 C = strL Y then Value.tuple #[.string X, .int .i64 0] else .tuple #[.string ⟨#[]⟩, .int .i64 6]) := ⟨_, rfl⟩
  rw [← hR]
  have HR := hide hR
  clear hR
  have HS := hide hsum
  have HT := hide htl
  have HCond := hide hcond
  have hfI : (f.size : Int) = 12 := by omega
  have h8 : f.extract 8 f.size = Y := by rw [hf]; exact hY
  clear hsum htl hC hT hXs hcond
  by_cases hc : T.toList = Y.toList
  · have hc2 : (T.toList == Y.toList) = true := by simp [hc]
    have hc3 : (T.toList != Y.toList) = false := by simp [hc]
    have HC := hide hc
    clear hc
    go_enter Tryz.func159, Tryz.ntmps159
    go_upto_region 6 with (fail)
    go_region_law (first
      | (go_simp; go_at_call 195; refine Calls.mono HS.out ?_; rintro e w1 ⟨rfl, rfl⟩)
      | (go_simp; go_at_call 194; refine Calls.mono (HT.out _) ?_; rintro e w2 ⟨rfl, hb2⟩; have HB2 := hide hb2; clear hb2))
    all_goals
      go_wp2_with fail
      refine bodyPost_ret (v := .tuple #[.string X, .int .i64 0]) (by simp [results, Tryz.results159, go_sem]) rfl ?_
      rw [HR.out, if_pos (HCond.out.2 HC.out)]
      exact ⟨rfl, (ba1 w (.cells #[.string X] 9)).drew.trans (HB2.out.mono (by simp))⟩
  · have hc2 : (T.toList == Y.toList) = false := by simp [hc]
    have hc3 : (T.toList != Y.toList) = true := by simp [hc]
    have HC := hide hc
    clear hc
    go_enter Tryz.func159, Tryz.ntmps159
    go_upto_region 6 with (fail)
    go_region_law (first
      | (go_simp; go_at_call 195; refine Calls.mono HS.out ?_; rintro e w1 ⟨rfl, rfl⟩)
      | (go_simp; go_at_call 194; refine Calls.mono (HT.out _) ?_; rintro e w2 ⟨rfl, hb2⟩; have HB2 := hide hb2; clear hb2))
    all_goals
      go_wp2_with fail
      refine bodyPost_ret (v := .tuple #[.string ⟨#[]⟩, .int .i64 6]) (by simp [results, Tryz.results159, go_sem]) rfl ?_
      rw [HR.out, if_neg (fun h => HC.out (HCond.out.1 h))]
      exact ⟨rfl, (ba1 w (.cells #[.string X] 9)).drew.trans (HB2.out.mono (by simp))⟩
end Go.Proofs.YtmopegpkoedgbaaGreatDoor
/- Walk: recs.form. -/
namespace Go.Proofs.YtmopegpkoedgbaaGreatDoor
open Go.RowKit Go.Sort

theorem strL_extract (s : ByteArray) (a b : Nat) (hb : b ≤ s.size) : strL (s.extract a b) = ((strL s).take b).drop a := by
  apply List.ext_getElem?
  intro i
  have hsz : (s.extract a b).size = b - a := by rw [ByteArray.size_extract]; omega
  by_cases h : i < b - a
  · rw [strL_get (by omega), List.getElem?_drop, List.getElem?_take, if_pos (by omega), strL_get (by omega)]
    congr 1
    unfold byt
    rw [dif_pos (by omega), dif_pos (by omega)]
    congr 1
    exact ByteArray.getElem_extract (by omega)
  · rw [List.getElem?_eq_none (by simp; omega), List.getElem?_eq_none (by simp; omega)]
theorem byt_getD (s : ByteArray) (k : Nat) : (strL s).getD k 0 = byt s k := by
  rw [List.getD_eq_getElem?_getD]
  by_cases h : k < s.size
  · rw [strL_get h]; rfl
  · rw [List.getElem?_eq_none (by simpa using h)]; unfold byt; rw [dif_neg h]; rfl
theorem prefix_any (s : ByteArray) (w : World) (hs : 2 ≤ s.size) : Calls Tryz.prog 158 #[.string s, .string ⟨#[87, 82]⟩] w fun e w' => e = .returned (.bool (decide ((strL s).take 2 = [87, 82]))) ∧ w' = w := by
  have h := Tryz.strings_HasPrefix s ⟨#[87, 82]⟩ w
  have e : Lib.hasPrefix s.data.toList ((⟨#[87, 82]⟩ : ByteArray)).data.toList = decide ((strL s).take 2 = [87, 82]) := by
    rw [strL_data]
    have hl : s.data.toList.length = s.size := (Lib.size_eq s).symm
    cases hd : s.data.toList with
    | nil => rw [hd] at hl; simp at hl; omega
    | cons a r =>
      cases r with
      | nil => rw [hd] at hl; simp at hl; omega
      | cons b r =>
        show List.isPrefixOf [(87 : UInt8), 82] (a :: b :: r) = decide ([a.toNat, b.toNat] = [87, 82])
        have ha : ((87 : UInt8) == a) = decide (a.toNat = 87) := by
          by_cases h : a = 87
          · subst h; rfl
          · have h1 : ¬ a.toNat = 87 := fun e => h (UInt8.toNat_inj.1 e)
            have h2 : ((87 : UInt8) == a) = false := by simp; exact fun e => h e.symm
            simp [h1, h2]
        have hb : ((82 : UInt8) == b) = decide (b.toNat = 82) := by
          by_cases h : b = 82
          · subst h; rfl
          · have h1 : ¬ b.toNat = 82 := fun e => h (UInt8.toNat_inj.1 e)
            have h2 : ((82 : UInt8) == b) = false := by simp; exact fun e => h e.symm
            simp [h1, h2]
        simp [List.isPrefixOf, ha, hb]
  rw [e] at h
  exact h
set_option maxRecDepth 100000 in
set_option maxHeartbeats 4000000 in
theorem form_any (s : ByteArray) (w : World) (hs : s.size = 64) : Calls Tryz.prog 115 #[.string s] w fun e w' => e = .returned (.tuple #[.int .i64 ((formB (strL s)).1 : Nat), .int .u64 ((formB (strL s)).2.1 : Nat), .int .i64 (formB (strL s)).2.2]) ∧ Below w.heap.size w w' := by
  have hpx := fun W => prefix_any s W (by omega)
  obtain ⟨Z, hZ⟩ : ∃ Z, s.extract 12 s.size = Z := ⟨_, rfl⟩
  obtain ⟨H, hH⟩ : ∃ H, s.extract 0 12 = H := ⟨_, rfl⟩
  obtain ⟨N, hN⟩ : ∃ N, s.extract 3 s.size = N := ⟨_, rfl⟩
  have hZs : Z.size = 52 := by rw [← hZ, ByteArray.size_extract]; omega
  have hHs : H.size = 12 := by rw [← hH, ByteArray.size_extract]; omega
  have hNs : N.size = 61 := by rw [← hN, ByteArray.size_extract]; omega
  have hzr := fun W => zeros_any0 Z W (by omega)
  have hop := fun W => crcOpen_any H W hHs
  have hno := fun W => numOf_any N W (by omega)
  have hlen : (strL s).length = 64 := by rw [strL_length]; exact hs
  have eZ : strL Z = (strL s).drop 12 := by rw [← hZ, strL_extract _ _ _ (Nat.le_refl _), List.take_of_length_le (by rw [hlen]; omega)]
  have eN : strL N = (strL s).drop 3 := by rw [← hN, strL_extract _ _ _ (Nat.le_refl _), List.take_of_length_le (by rw [hlen]; omega)]
  have eH : strL H = (strL s).take 12 := by rw [← hH, strL_extract _ _ _ (by omega), List.drop_zero]
  have e8 : strL (H.extract 0 8) = (strL s).take 8 := by rw [strL_extract _ _ _ (by omega), eH, List.drop_zero, List.take_take]; rfl
  have e12 : strL (H.extract 8 12) = ((strL s).take 12).drop 8 := by rw [strL_extract _ _ _ (by omega), eH, List.take_take]; rfl
  have eb := byt_getD s 2
  rw [eZ] at hzr
  rw [e8, e12] at hop
  rw [eN] at hno
  obtain ⟨t1, ht1⟩ : ∃ t1, t1 = decide ((strL s).take 2 = [87, 82]) := ⟨_, rfl⟩
  obtain ⟨t3, ht3⟩ : ∃ t3, t3 = zerosL ((strL s).drop 12) := ⟨_, rfl⟩
  obtain ⟨b, hb⟩ : ∃ b, b = byt s 2 := ⟨_, rfl⟩
  have hbl : b < 256 := by rw [hb]; exact byt_lt _ _
  have hbs : ∀ h, (s[2]'h).toNat = b := fun h => by rw [hb]; exact byt_of s h
  obtain ⟨F, hF⟩ : ∃ F, F = formB (strL s) := ⟨_, rfl⟩
  have hFe : F = if t1 = false ∨ 8 < b ∨ t3 = false then (0, 0, 2) else if tail4 (crcS ((strL s).take 8)) ≠ ((strL s).take 12).drop 8 then (0, 0, 6) else (b, ofB (((strL s).drop 3).take 5), 0) := by
    rw [hF]
    unfold formB
    rw [eb, ← hb, ht1, ht3]
    simp
  rw [← hF]
  rw [← ht1] at hpx
  rw [← ht3] at hzr
  obtain ⟨V, hV⟩ : ∃ V, V = ofB (((strL s).drop 3).take 5) := ⟨_, rfl⟩
  rw [← hV] at hno hFe
  have HPx := hide hpx
  have HZr := hide hzr
  have HNo := hide hno
  have HFe := hide hFe
  have hlt : 2 < s.size := by omega
  have hcs : (s[2]'hlt).toNat = b := hbs hlt
  have hsI : (s.size : Int) = 64 := by omega
  clear hpx hzr hno hFe ht1 ht3 hb hbs hF hV eZ eN eH e8 e12 eb hlen hZs hHs hNs hs
  cases t1 with
  | false =>
    have hf := HFe.out
    rw [if_pos (.inl rfl)] at hf
    rw [hf]
    clear hf hop
    go_enter Tryz.func115, Tryz.ntmps115
    go_wp2_with (go_at_call 158; refine Calls.mono (HPx.out _) ?_; rintro e w1 ⟨rfl, rfl⟩)
    refine bodyPost_ret (v := .tuple #[.int .i64 0, .int .u64 0, .int .i64 2]) (by simp [results, Tryz.results115, go_sem]) rfl ?_
    exact ⟨rfl, Below.refl _ _⟩
  | true =>
    by_cases hb8 : 8 < b
    · have hf := HFe.out
      rw [if_pos (.inr (.inl hb8))] at hf
      rw [hf]
      have hb8I : (8 : Int) < (b : Int) := by omega
      clear hf hop
      go_enter Tryz.func115, Tryz.ntmps115
      go_wp2_with (go_at_call 158; refine Calls.mono (HPx.out _) ?_; rintro e w1 ⟨rfl, rfl⟩)
      refine bodyPost_ret (v := .tuple #[.int .i64 0, .int .u64 0, .int .i64 2]) (by simp [results, Tryz.results115, go_sem]) rfl ?_
      exact ⟨rfl, Below.refl _ _⟩
    · have hb8I : ¬ (8 : Int) < (b : Int) := by omega
      cases t3 with
      | false =>
        have hf := HFe.out
        rw [if_pos (.inr (.inr rfl))] at hf
        rw [hf]
        clear hf hop
        go_enter Tryz.func115, Tryz.ntmps115
        go_wp2_with (first | (go_at_call 158; refine Calls.mono (HPx.out _) ?_; rintro e w1 ⟨rfl, rfl⟩) | (go_at_call 88; refine Calls.mono (HZr.out _) ?_; rintro e w2 ⟨rfl, hb2⟩; have HB2 := hide hb2; clear hb2))
        refine bodyPost_ret (v := .tuple #[.int .i64 0, .int .u64 0, .int .i64 2]) (by simp [results, Tryz.results115, go_sem]) rfl ?_
        exact ⟨rfl, HB2.out⟩
      | true =>
        by_cases hc : tail4 (crcS ((strL s).take 8)) = ((strL s).take 12).drop 8
        · have hf := HFe.out
          rw [if_neg (by simp [hb8]), if_neg (by simp [hc])] at hf
          rw [hf]
          have hop2 := fun W => hop W
          simp only [if_pos hc] at hop2
          have HOp := hide hop2
          have hq := fun (W : World) (d : Nat) (os : Array Obj) => Calls.regrown_of (w := W) (d := d) (os := os) ((HNo.out (grow (redrawn W d) os)).mono fun e w' ⟨h1, h2⟩ => ⟨h1, by rw [h2]; exact Below.refl _ _⟩)
          have HQ := hide hq
          clear hf hop hop2 hc hq
          go_enter Tryz.func115, Tryz.ntmps115
          go_upto_region 6 with (first | (go_at_call 158; refine Calls.mono (HPx.out _) ?_; rintro e w1 ⟨rfl, rfl⟩) | (go_at_call 88; refine Calls.mono (HZr.out _) ?_; rintro e w2 ⟨rfl, hb2⟩; have HB2 := hide hb2; clear hb2) | (go_at_call 159; refine Calls.mono (HOp.out _) ?_; rintro e w3 ⟨rfl, hb3⟩; have HB3 := hide hb3; clear hb3))
          have hmx : Tryz.prog.follows .mixedOrders = true := by kernel_rfl
          with_reducible refine wp_region_quiet_below hmx (by kernel_rfl) ?_
          repeat (with_reducible refine wpQuiet_step (fun K hK => ?_); go_simp; first | (with_reducible refine hK _ ?_; clear hK K) | (with_reducible apply Exists.intro; refine ⟨fun _ => ?_, hK _ ?_⟩; (with_reducible exact HQ.out _ _ _); clear hK K))
          with_reducible refine wpQuiet_nil ?_
          intro _ hw'
          obtain ⟨⟨dq, osq⟩, hw''⟩ := hw'
          subst hw''
          dsimp only
          have HB4 : Hid (Below w3.heap.size w3 (grow (redrawn w3 dq) osq)) := hide (below_regrown w3 dq osq)
          obtain ⟨w5, hw5⟩ : ∃ W, W = grow (redrawn w3 dq) osq := ⟨_, rfl⟩
          rw [← hw5] at HB4 ⊢
          clear hw5
          go_wp2_with fail
          have hwb : IntKind.i64.wrap (b : Int) = (b : Int) := IntWalk.i64_in _ ⟨by omega, by omega⟩
          refine bodyPost_ret (v := .tuple #[.int .i64 b, .int .u64 V, .int .i64 0]) (by simp [results, Tryz.results115, go_sem, hwb]) rfl ?_
          exact ⟨rfl, btrans (btrans HB2.out HB3.out) HB4.out⟩
        · have hf := HFe.out
          rw [if_neg (by simp [hb8]), if_pos hc] at hf
          rw [hf]
          have hop2 := fun W => hop W
          simp only [if_neg hc] at hop2
          have HOp := hide hop2
          clear hf hop hop2 hc
          go_enter Tryz.func115, Tryz.ntmps115
          go_wp2_with (first | (go_at_call 158; refine Calls.mono (HPx.out _) ?_; rintro e w1 ⟨rfl, rfl⟩) | (go_at_call 88; refine Calls.mono (HZr.out _) ?_; rintro e w2 ⟨rfl, hb2⟩; have HB2 := hide hb2; clear hb2) | (go_at_call 159; refine Calls.mono (HOp.out _) ?_; rintro e w3 ⟨rfl, hb3⟩; have HB3 := hide hb3; clear hb3))
          refine bodyPost_ret (v := .tuple #[.int .i64 0, .int .u64 0, .int .i64 6]) (by simp [results, Tryz.results115, go_sem]) rfl ?_
          exact ⟨rfl, btrans HB2.out HB3.out⟩
end Go.Proofs.YtmopegpkoedgbaaGreatDoor
/- Walks: recs.HeadAt's search of an extent; recs.HeadAt. -/
namespace Go.Proofs.YtmopegpkoedgbaaGreatDoor
open Go.RowKit Go.Sort

theorem head1_any (bn : Nat) (name : ByteArray) (x : Ext) (w : World) (hn : w.cell? ⟨bn, 0, none⟩ = some (.string name)) :
    Calls Tryz.prog 117 #[extV x, .pointer (some ⟨bn, 0, none⟩)] w fun e w' => e = .returned (.bool (decide (x.nm = name))) ∧ Below w.heap.size w w' := by
  obtain ⟨n1, n2⟩ := x
  have hln := World.block_lt_of_cell? w _ hn
  dsimp only at hln
  unfold extV
  by_cases h : n1 = name
  · subst h
    have e3 : (n1.toList == n1.toList) = true := by simp
    go_enter Tryz.func117, Tryz.ntmps117
    go_wp2_with fail
    go_ret
    exact ⟨by simp, ba1 _ _⟩
  · have e3 : ¬ n1.toList = name.toList := fun e => h (toList_inj' e)
    have e4 : (n1.toList == name.toList) = false := by simp [e3]
    have H := hide h
    clear h
    go_enter Tryz.func117, Tryz.ntmps117
    go_wp2_with fail
    go_ret
    exact ⟨by simp [H.out], ba1 _ _⟩
set_option maxRecDepth 100000 in
set_option maxHeartbeats 4000000 in
theorem index_ext (A : Option Addr) (c bn : Nat) (name : ByteArray) (l : List Ext) (w : World) (hr : Rd w w.heap.size A (flatE l)) (hn : w.cell? ⟨bn, 0, none⟩ = some (.string name)) (hl : l.length ≤ 1000000) :
    Calls Tryz.prog 116 #[.slice A l.length c, .func (.func 117) #[] #[.pointer (some ⟨bn, 0, none⟩)]] w fun e w' => e = .returned (.int .i64 (idxI (fun x : Ext => decide (x.nm = name)) l)) ∧ Below w.heap.size w w' := by
  have hln := World.block_lt_of_cell? w _ hn
  dsimp only at hln
  have h1 := fun (f : Ext) (W : World) (h : Below w.heap.size w W) => head1_any bn name f W ((h.cell (p := ⟨bn, 0, none⟩) hln).trans hn)
  have H1 := hide h1
  have HR := hide hr
  clear h1 hr hn
  go_enter Tryz.func116, Tryz.ntmps116
  go_wp2_with fail
  go_loopw [8] (fun i wr => ∃ k : Nat, i = .int .i64 k ∧ k ≤ l.length ∧ Hid (Below w.heap.size w wr) ∧ Hid (∀ j y, j < k → l[j]? = some y → (fun x : Ext => decide (x.nm = name)) y = false)) (fun i _ => l.length - (intOf i).toNat)
  case atStart => exact ⟨0, rfl, by omega, hide (Below.refl _ _), hide (fun j y hj => by omega)⟩
  case round =>
    obtain ⟨k, rfl, hk, hbe, hinv⟩ := hrel
    by_cases hlt : k < l.length
    · obtain ⟨f, hx⟩ : ∃ x, l[k]? = some x := ⟨l[k], List.getElem?_eq_getElem hlt⟩
      obtain ⟨b, o, rfl, hb, e1, e2⟩ := ext_cells HR.out hx
      have x1 : wr.cell? ⟨b, o + k * 2, none⟩ = some (.string f.nm) := (hbe.out.cell (p := ⟨b, o + k * 2, none⟩) hb).trans e1
      have x2 : wr.cell? ⟨b, o + k * 2 + 1, none⟩ = some (.string f.dt) := (hbe.out.cell (p := ⟨b, o + k * 2 + 1, none⟩) hb).trans e2
      have h1f := H1.out f wr hbe.out
      obtain ⟨t, ht⟩ : ∃ t, t = decide (f.nm = name) := ⟨_, rfl⟩
      rw [← ht] at h1f
      unfold extV at h1f
      have H1f := hide h1f
      have HTe := hide ht
      have HX := hide hx
      clear h1f ht hx e1 e2
      cases t with
      | true =>
        go_wp2_with (go_at_call 117; refine Calls.mono (H1f.out) ?_; rintro e w1 ⟨rfl, hb1⟩; have HB1 := hide hb1; clear hb1)
        go_ret
        exact ⟨by rw [idxI_at (p := fun x : Ext => decide (x.nm = name)) hinv.out HX.out HTe.out.symm]; rfl, btrans hbe.out HB1.out⟩
      | false =>
        go_wp2_with (go_at_call 117; refine Calls.mono (H1f.out) ?_; rintro e w1 ⟨rfl, hb1⟩; have HB1 := hide hb1; clear hb1)
        exact ⟨⟨k + 1, by simp, by omega, hide (btrans hbe.out HB1.out), hide (findIdx_step (p := fun x : Ext => decide (x.nm = name)) hinv.out HX.out HTe.out.symm)⟩, by simp [intOf]; omega⟩
    · obtain rfl : k = l.length := by omega
      go_wp2_with fail
      go_ret
      exact ⟨by rw [idxI_none (p := fun x : Ext => decide (x.nm = name)) hinv.out]; rfl, hbe.out⟩
theorem find_idx {l : List Ext} {name : ByteArray} {x : Ext} (hx : x ∈ l) (e : x.nm = name) : ∃ k y, idxI (fun x : Ext => decide (x.nm = name)) l = (k : Nat) ∧ l[k]? = some y ∧ (l.find? fun x => decide (x.nm = name)) = some y := by
  unfold idxI
  cases h : l.findIdx? (fun x => decide (x.nm = name)) with
  | none =>
    rw [List.findIdx?_eq_none_iff] at h
    have := h x hx
    simp [e] at this
  | some k =>
    obtain ⟨hk, h1, h2⟩ := List.findIdx?_eq_some_iff_getElem.1 h
    refine ⟨k, l[k], rfl, List.getElem?_eq_getElem hk, ?_⟩
    rw [List.find?_eq_some_iff_getElem]
    exact ⟨h1, k, hk, rfl, fun j hj => by have := h2 j hj; simpa using this⟩
set_option maxRecDepth 100000 in
set_option maxHeartbeats 4000000 in
theorem headAt_any (B : Fld) (q : Nat) (d : Dsk) (name : ByteArray) (w : World) (hd : DvAt w B q d) (hr : Right d) :
    Calls Tryz.prog 73 #[.pointer (some ⟨q, 0, none⟩), .string name] w fun e w' => e = .returned (.tuple #[.int .i64 ((headAt d name).1 : Nat), .int .u64 ((headAt d name).2.1 : Nat), .int .i64 (headAt d name).2.2]) ∧ Below w.heap.size w w' := by
  have HDv := hide hd
  have hrd := fun (W : World) (h : Below w.heap.size w W) => read_disk B q d name 0 W (hd.keep h) hr
  have hsz := readD_size (name := name) (sec := 0) hr
  have hpl := placeD_iff (name := name) (sec := 0) hr
  obtain ⟨E, W, hk, hE, hW, hqf⟩ := hd
  obtain ⟨A, c, rfl⟩ := own_formk hE
  have hrE := own_rdk hE
  have hlen := hr.len
  have hrp := @readD_place d name 0
  obtain ⟨H, hH⟩ : ∃ H, H = headAt d name := ⟨_, rfl⟩
  have hHe : H = if (readD d name 0).2 ≠ 0 then (0, 0, (readD d name 0).2) else
      if (formB (strL (readD d name 0).1)).2.2 ≠ 0 then (0, 0, (formB (strL (readD d name 0).1)).2.2) else
      if (needW ((formB (strL (readD d name 0).1)).1 : Nat) (formB (strL (readD d name 0).1)).2.1).2 ≠ 0 ∨ (((d.exts.find? fun x => decide (x.nm = name)).map fun x => x.dt.size).getD 0) ≠ (needW ((formB (strL (readD d name 0).1)).1 : Nat) (formB (strL (readD d name 0).1)).2.1).1 * 64 then (0, 0, 2) else formB (strL (readD d name 0).1) := hH
  rw [← hH]
  obtain ⟨R, hR⟩ : ∃ R, R = readD d name 0 := ⟨_, rfl⟩
  rw [← hR] at hrd hsz hHe hrp
  obtain ⟨s, r2⟩ := R
  dsimp only at hrd hsz hHe hrp
  have HRd := hide hrd
  have HHe := hide hHe
  clear hrd hH hHe hR
  have HK := hide hk
  have HNm := hide (Bk.new w 9 #[.string name])
  by_cases h1 : r2 = 0
  · subst h1
    obtain ⟨hs64, hnm⟩ := hsz rfl
    obtain ⟨x, hx, hxn, _, _⟩ := hpl.1 hrp.symm
    obtain ⟨k, y, hik, hky, hfy⟩ := find_idx hx hxn
    obtain ⟨b, o, rfl, hbE, g1, g2⟩ := ext_cells hrE hky
    have hysz := hr.ext_size (List.mem_of_getElem? hky)
    have hkl : k < d.exts.length := (List.getElem?_eq_some_iff.1 hky).1
    have hfm := fun W => form_any s W hs64
    have hix := fun (W : World) (h : Below w.heap.size w W) (hn : W.cell? ⟨w.heap.size, 0, none⟩ = some (.string name)) => index_ext (some ⟨b, o, none⟩) c w.heap.size name d.exts W ((hrE.below h).more h.size) hn (by omega)
    rw [hik] at hix
    have hhe := HHe.out
    rw [if_neg (by simp), hfy] at hhe
    obtain ⟨F, hF⟩ : ∃ F, F = formB (strL s) := ⟨_, rfl⟩
    rw [← hF] at hfm hhe
    obtain ⟨fw, fc, f3⟩ := F
    dsimp only at hfm hhe
    have hnd := fun W => need_any (fw : Int) fc W
    obtain ⟨Nn, hNn⟩ : ∃ Nn, Nn = needW (fw : Int) fc := ⟨_, rfl⟩
    have hNl : Nn.1 ≤ 50000 := by
      rw [hNn]; unfold needW
      split
      · simp
      · show 1 + (eachW _ * fc + 63) / 64 ≤ 50000
        have he : eachW (fw : Int).toNat ≤ 40 := by rw [Int.toNat_natCast]; unfold eachW; split <;> omega
        have := Nat.mul_le_mul he (show fc ≤ 65536 by omega)
        omega
    rw [← hNn] at hnd hhe
    obtain ⟨nn, n2'⟩ := Nn
    dsimp only at hnd hhe hNl
    obtain ⟨yn, yd⟩ := y
    dsimp only at g1 g2 hysz
    have hhe2 : H = if f3 ≠ 0 then (0, 0, f3) else if n2' ≠ 0 ∨ yd.size ≠ nn * 64 then (0, 0, 2) else (fw, fc, f3) := hhe
    have HH := hide hhe2
    have HFm := hide hfm
    have HIx := hide hix
    have HNd := hide hnd
    clear hhe hhe2 hfm hix hnd hik hky hfy hx hxn hF hNn HHe hrE hr hE hW hk hpl hrp hsz
    by_cases h3 : f3 = 0
    · subst h3
      have hwm : IntKind.i64.wrap ((nn : Int) * 64) = ((nn * 64 : Nat) : Int) := by rw [IntWalk.i64_in _ ⟨by omega, by omega⟩]; omega
      by_cases h4 : n2' = 0
      · subst h4
        by_cases h5 : yd.size = nn * 64
        · have h5b : ((yd.size : Int) != ((nn * 64 : Nat) : Int)) = false := by simp; omega
          have hh := HH.out
          rw [if_neg (by simp), if_neg (by simp [h5])] at hh
          rw [hh]
          clear hh
          go_enter Tryz.func73, Tryz.ntmps73
          go_wp2_with (first | (go_at_call 86; refine Calls.mono (HRd.out _ (ba1 _ _)) ?_; rintro e w1 ⟨rfl, hb1⟩; have n1 := ((HNm.out.keep hb1).cell 0).trans rfl; have HN1 := hide (HNm.out.keep hb1); have HB1 := hide (btrans (ba1 _ _) hb1); clear hb1) | (go_at_call 115; refine Calls.mono (HFm.out _) ?_; rintro e w2 ⟨rfl, hb2⟩; have hk2 := HK.out.keep (btrans HB1.out hb2); obtain ⟨d0, d1, d2, d3, d4⟩ := five_cells hk2; have hq2 := hk2.lt; have n2 := ((HN1.out.keep hb2).cell 0).trans rfl; have HK2 := hide hk2; have HN2 := hide (HN1.out.keep hb2); have HB2 := hide (btrans HB1.out hb2); clear hb2 hk2) | (go_at_call 85; refine Calls.mono (HNd.out _) ?_; rintro e w3 ⟨rfl, rfl⟩) | (go_at_call 116; refine Calls.mono (HIx.out _ HB2.out n2) ?_; rintro e w4 ⟨rfl, hb4⟩; have hk4 := HK2.out.keep hb4; obtain ⟨t0, t1, t2, t3, t4⟩ := five_cells hk4; have q1 := ((btrans HB2.out hb4).cell (p := ⟨b, o + k * 2, none⟩) hbE).trans g1; have q2 := ((btrans HB2.out hb4).cell (p := ⟨b, o + k * 2 + 1, none⟩) hbE).trans g2; have HB4 := hide (btrans HB2.out hb4); clear hb4 hk4))
          refine bodyPost_ret (v := .tuple #[.int .i64 fw, .int .u64 fc, .int .i64 0]) (by simp [results, Tryz.results73, go_sem]) rfl ?_
          exact ⟨rfl, HB4.out⟩
        · have h5b : ((yd.size : Int) != ((nn * 64 : Nat) : Int)) = true := by simp; omega
          have hh := HH.out
          rw [if_neg (by simp), if_pos (.inr h5)] at hh
          rw [hh]
          clear hh
          go_enter Tryz.func73, Tryz.ntmps73
          go_wp2_with (first | (go_at_call 86; refine Calls.mono (HRd.out _ (ba1 _ _)) ?_; rintro e w1 ⟨rfl, hb1⟩; have n1 := ((HNm.out.keep hb1).cell 0).trans rfl; have HN1 := hide (HNm.out.keep hb1); have HB1 := hide (btrans (ba1 _ _) hb1); clear hb1) | (go_at_call 115; refine Calls.mono (HFm.out _) ?_; rintro e w2 ⟨rfl, hb2⟩; have hk2 := HK.out.keep (btrans HB1.out hb2); obtain ⟨d0, d1, d2, d3, d4⟩ := five_cells hk2; have hq2 := hk2.lt; have n2 := ((HN1.out.keep hb2).cell 0).trans rfl; have HK2 := hide hk2; have HN2 := hide (HN1.out.keep hb2); have HB2 := hide (btrans HB1.out hb2); clear hb2 hk2) | (go_at_call 85; refine Calls.mono (HNd.out _) ?_; rintro e w3 ⟨rfl, rfl⟩) | (go_at_call 116; refine Calls.mono (HIx.out _ HB2.out n2) ?_; rintro e w4 ⟨rfl, hb4⟩; have hk4 := HK2.out.keep hb4; obtain ⟨t0, t1, t2, t3, t4⟩ := five_cells hk4; have q1 := ((btrans HB2.out hb4).cell (p := ⟨b, o + k * 2, none⟩) hbE).trans g1; have q2 := ((btrans HB2.out hb4).cell (p := ⟨b, o + k * 2 + 1, none⟩) hbE).trans g2; have HB4 := hide (btrans HB2.out hb4); clear hb4 hk4))
          refine bodyPost_ret (v := .tuple #[.int .i64 0, .int .u64 0, .int .i64 2]) (by simp [results, Tryz.results73, go_sem]) rfl ?_
          exact ⟨rfl, HB4.out⟩
      · have h4b : (n2' != 0) = true := by simp [h4]
        have hh := HH.out
        rw [if_neg (by simp), if_pos (.inl h4)] at hh
        rw [hh]
        clear hh
        go_enter Tryz.func73, Tryz.ntmps73
        go_wp2_with (first | (go_at_call 86; refine Calls.mono (HRd.out _ (ba1 _ _)) ?_; rintro e w1 ⟨rfl, hb1⟩; have n1 := ((HNm.out.keep hb1).cell 0).trans rfl; have HN1 := hide (HNm.out.keep hb1); have HB1 := hide (btrans (ba1 _ _) hb1); clear hb1) | (go_at_call 115; refine Calls.mono (HFm.out _) ?_; rintro e w2 ⟨rfl, hb2⟩; have hk2 := HK.out.keep (btrans HB1.out hb2); obtain ⟨d0, d1, d2, d3, d4⟩ := five_cells hk2; have hq2 := hk2.lt; have n2 := ((HN1.out.keep hb2).cell 0).trans rfl; have HK2 := hide hk2; have HN2 := hide (HN1.out.keep hb2); have HB2 := hide (btrans HB1.out hb2); clear hb2 hk2) | (go_at_call 85; refine Calls.mono (HNd.out _) ?_; rintro e w3 ⟨rfl, rfl⟩) | (go_at_call 116; refine Calls.mono (HIx.out _ HB2.out n2) ?_; rintro e w4 ⟨rfl, hb4⟩; have hk4 := HK2.out.keep hb4; obtain ⟨t0, t1, t2, t3, t4⟩ := five_cells hk4; have q1 := ((btrans HB2.out hb4).cell (p := ⟨b, o + k * 2, none⟩) hbE).trans g1; have q2 := ((btrans HB2.out hb4).cell (p := ⟨b, o + k * 2 + 1, none⟩) hbE).trans g2; have HB4 := hide (btrans HB2.out hb4); clear hb4 hk4))
        refine bodyPost_ret (v := .tuple #[.int .i64 0, .int .u64 0, .int .i64 2]) (by simp [results, Tryz.results73, go_sem]) rfl ?_
        exact ⟨rfl, HB4.out⟩
    · have h3b : (f3 != 0) = true := by simp [h3]
      have hh := HH.out
      rw [if_pos h3] at hh
      rw [hh]
      clear hh
      go_enter Tryz.func73, Tryz.ntmps73
      go_wp2_with (first | (go_at_call 86; refine Calls.mono (HRd.out _ (ba1 _ _)) ?_; rintro e w1 ⟨rfl, hb1⟩; have n1 := ((HNm.out.keep hb1).cell 0).trans rfl; have HN1 := hide (HNm.out.keep hb1); have HB1 := hide (btrans (ba1 _ _) hb1); clear hb1) | (go_at_call 115; refine Calls.mono (HFm.out _) ?_; rintro e w2 ⟨rfl, hb2⟩; have hk2 := HK.out.keep (btrans HB1.out hb2); obtain ⟨d0, d1, d2, d3, d4⟩ := five_cells hk2; have hq2 := hk2.lt; have n2 := ((HN1.out.keep hb2).cell 0).trans rfl; have HK2 := hide hk2; have HN2 := hide (HN1.out.keep hb2); have HB2 := hide (btrans HB1.out hb2); clear hb2 hk2))
      refine bodyPost_ret (v := .tuple #[.int .i64 0, .int .u64 0, .int .i64 f3]) (by simp [results, Tryz.results73, go_sem]) rfl ?_
      exact ⟨rfl, HB2.out⟩
  · have h1b : (r2 != 0) = true := by simp [h1]
    have hh := HHe.out
    rw [if_pos h1] at hh
    rw [hh]
    clear hh HHe hrp hpl hr hE hW hk hrE
    go_enter Tryz.func73, Tryz.ntmps73
    go_wp2_with (go_at_call 86; refine Calls.mono (HRd.out _ (ba1 _ _)) ?_; rintro e w1 ⟨rfl, hb1⟩; have n1 := ((HNm.out.keep hb1).cell 0).trans rfl; have HN1 := hide (HNm.out.keep hb1); have HB1 := hide (btrans (ba1 _ _) hb1); clear hb1)
    refine bodyPost_ret (v := .tuple #[.int .i64 0, .int .u64 0, .int .i64 r2]) (by simp [results, Tryz.results73, go_sem]) rfl ?_
    exact ⟨rfl, HB1.out⟩
end Go.Proofs.YtmopegpkoedgbaaGreatDoor
/- Walk: recs.HeadOf. -/
namespace Go.Proofs.YtmopegpkoedgbaaGreatDoor
open Go.RowKit Go.Sort

theorem conv_bytes {W : World} {g : Nat} {t : TypeId} {l : List Nat} {n c : Nat} (h : Bk W g t (vby l).toArray) (hn : l.length = n) : (convert 99 9 (.slice (some ⟨g, 0, none⟩) n c)).run Tryz.prog W = .ok (.string (strOf l)) W := by
  subst hn
  exact run_conv Tryz.prog W 99 5 Tryz.underlying99 Tryz.underlying5 9 Tryz.underlying9 (l := l) (B := W.heap.size) (fun i u hu => ⟨g, 0, rfl, h.lt, by rw [Nat.zero_add, h.cell i, List.getElem?_toArray]; exact hu⟩) c
theorem strOf_app (a b : List Nat) : strOf (a ++ b) = strOf a ++ strOf b := by
  apply ByteArray.ext
  simp [strOf]
set_option maxRecDepth 100000 in
set_option maxHeartbeats 4000000 in
theorem headOf_any (width count : Nat) (w : World) (hw : width < 256) :
    Calls Tryz.prog 113 #[.int .i64 width, .int .u64 count] w fun e w' => e = .returned (.string (headOf width count)) ∧ Below w.heap.size w w' := by
  obtain ⟨a0, a1, a2, a3, a4, h5⟩ : ∃ a0 a1 a2 a3 a4, five count = [a0, a1, a2, a3, a4] := ⟨_, _, _, _, _, rfl⟩
  have hbl : ∀ x ∈ [87, 82, width] ++ five count, x < 256 := by
    intro x hx
    simp only [List.cons_append, List.nil_append, List.mem_cons, five, List.not_mem_nil, or_false] at hx
    rcases hx with rfl | rfl | rfl | rfl | rfl | rfl | rfl | rfl <;> omega
  have hfv : ∀ W, Calls Tryz.prog 108 #[.int .u64 count] W fun e w' => e = .returned (.agg #[.int .u8 a0, .int .u8 a1, .int .u8 a2, .int .u8 a3, .int .u8 a4]) ∧ Below W.heap.size W w' := fun W => by
    have := five_any count W
    unfold fiveV at this
    rw [h5] at this
    exact this
  have hbo := fun W => byteOf_any width W hw
  obtain ⟨S, hS⟩ : ∃ S : ByteArray, S = ⟨#[87, 82]⟩ ++ strOf [width] ++ strOf [a0, a1, a2, a3, a4] := ⟨_, rfl⟩
  have hSl : S = strOf (headM width count) := by
    rw [hS]
    unfold headM
    rw [h5, Nat.mod_eq_of_lt hw]
    rfl
  have hSs : S.size = 8 := by rw [hSl, strOf_size]; rfl
  have hfr := fun W => frame_any S W (by omega)
  obtain ⟨F, hF⟩ : ∃ F, F = S ++ strOf (tail4 (crcS (strL S))) := ⟨_, rfl⟩
  rw [← hF] at hfr
  have hFs : F.size = 12 := by rw [hF, ByteArray.size_append, strOf_size, hSs]; rfl
  have hpd := fun W => padded_any F W (by omega)
  have hres : headOf width count = padB F := by
    rw [hF, hSl]
    unfold headOf
    have : strL (strOf (headM width count)) = headM width count := strL_of (by
      intro x hx
      refine hbl x ?_
      unfold headM at hx
      rw [Nat.mod_eq_of_lt hw] at hx
      exact hx)
    rw [this, strOf_app]
  rw [hres]
  obtain ⟨X1, hX1⟩ : ∃ X1, X1 = strOf [width] := ⟨_, rfl⟩
  obtain ⟨X5, hX5⟩ : ∃ X5, X5 = strOf [a0, a1, a2, a3, a4] := ⟨_, rfl⟩
  have z1 : X1.size = 1 := by rw [hX1, strOf_size]; rfl
  have z5 : X5.size = 5 := by rw [hX5, strOf_size]; rfl
  have hc := fun (W : World) (g : Nat) (hk : Bk W g 169 #[.int .u8 a0, .int .u8 a1, .int .u8 a2, .int .u8 a3, .int .u8 a4]) => (show (convert 99 9 (.slice (some ⟨g, 0, none⟩) 5 5)).run Tryz.prog W = .ok (.string X5) W from by rw [hX5]; exact conv_bytes (t := 169) (l := [a0, a1, a2, a3, a4]) hk rfl)
  have hb := fun (W : World) (g : Nat) (hk : Bk W g 5 #[.int .u8 width]) => (show (convert 99 9 (.slice (some ⟨g, 0, none⟩) 1 1)).run Tryz.prog W = .ok (.string X1) W from by rw [hX1]; exact conv_bytes (t := 5) (l := [width]) hk rfl)
  rw [← hX1, ← hX5] at hS
  have n0 : (⟨#[87, 82]⟩ : ByteArray).size = 2 := rfl
  have n1 : (⟨#[87, 82]⟩ ++ X1 : ByteArray).size = 3 := by rw [ByteArray.size_append, z1]; rfl
  have n2 : ¬ 9223372036854775807 < (⟨#[87, 82]⟩ : ByteArray).size + X1.size := by rw [n0, z1]; decide
  have n3 : ¬ 9223372036854775807 < (⟨#[87, 82]⟩ ++ X1 : ByteArray).size + X5.size := by rw [n1, z5]; decide
  subst hS
  have HFv := hide hfv
  have HBo := hide hbo
  have HFr := hide hfr
  have HPd := hide hpd
  have HC := hide hc
  have HB := hide hb
  clear hfv hbo hfr hpd hSl hSs hF hres hbl h5 hc hb hX1 hX5
  go_enter Tryz.func113, Tryz.ntmps113
  go_upto_region 2 with (go_at_call 108; refine Calls.mono (HFv.out _) ?_; rintro e w1 ⟨rfl, hb1⟩; have HB1 := hide hb1; clear hb1)
  obtain ⟨W1, hW1⟩ : ∃ W1, W1 = w1.alloc (.cells #[.int .u8 a0, .int .u8 a1, .int .u8 a2, .int .u8 a3, .int .u8 a4] 169) := ⟨_, rfl⟩
  obtain ⟨g, hg⟩ : ∃ g, g = w1.heap.size := ⟨_, rfl⟩
  have hk1 : Bk W1 g 169 #[.int .u8 a0, .int .u8 a1, .int .u8 a2, .int .u8 a3, .int .u8 a4] := by rw [hW1, hg]; exact Bk.new _ _ _
  have hl1 := hk1.lt
  have hb1 : Below w.heap.size w W1 := by rw [hW1]; exact btrans HB1.out (ba1 _ _)
  rw [← hW1, ← hg]
  have hc1 := HC.out W1.drew g hk1
  have hbx := HB.out (W1.alloc (.cells #[.int .u8 width] 5)).drew W1.heap.size (show Bk (W1.alloc (.cells #[.int .u8 width] 5)) W1.heap.size _ _ from Bk.new _ _ _)
  have hc2 := HC.out (W1.alloc (.cells #[.int .u8 width] 5)).drew g (show Bk (W1.alloc (.cells #[.int .u8 width] 5)) g _ _ from hk1.alloc _)
  have HW := hide hb1
  have HBX := hide hbx
  have HC2 := hide hc2
  clear hb1 hW1 hg HB1 hbx hc2 hk1
  go_region_law (first
    | (go_simp; go_at_call 155; refine Calls.mono (HBo.out _) ?_; rintro e w2 ⟨rfl, rfl⟩; have q1 := HBX.out; have q2 := HC2.out)
    | (go_simp; go_at_call 154; refine Calls.mono (HFr.out _) ?_; rintro e w3 ⟨rfl, hb3⟩; have HB3 := hide hb3; clear hb3))
  all_goals
    go_wp2_with (go_at_call 111; refine Calls.mono (HPd.out _) ?_; rintro e w4 ⟨rfl, hb4⟩; have HB4 := hide hb4; clear hb4)
    go_ret
    exact ⟨rfl, btrans (btrans (btrans HW.out (ba1 _ _)).drew HB3.out) HB4.out⟩
end Go.Proofs.YtmopegpkoedgbaaGreatDoor
/- Walk: recs.put. -/
namespace Go.Proofs.YtmopegpkoedgbaaGreatDoor
open Go.RowKit

/-- Five cells of a disk are stored. -/
def pt5 (w : World) (b : Nat) (a0 a1 a2 a3 a4 : Value) : World := ((((w.setCell ⟨b, 0, none⟩ a0).setCell ⟨b, 1, none⟩ a1).setCell ⟨b, 2, none⟩ a2).setCell ⟨b, 3, none⟩ a3).setCell ⟨b, 4, none⟩ a4
theorem pt5_bk {w : World} {b : Nat} {t : TypeId} {z0 z1 z2 z3 z4 : Value} (h : Bk w b t #[z0, z1, z2, z3, z4]) (a0 a1 a2 a3 a4 : Value) : Bk (pt5 w b a0 a1 a2 a3 a4) b t #[a0, a1, a2, a3, a4] := ((((h.set_ 0 a0).set_ 1 a1).set_ 2 a2).set_ 3 a3).set_ 4 a4
theorem pt5_fr (w : World) (b : Nat) (a0 a1 a2 a3 a4 : Value) : Fr (fun k => k = b) w (pt5 w b a0 a1 a2 a3 a4) :=
  (((((Fr.refl (fun k => k = b) w).setCell (p := ⟨b, 0, none⟩) (.inl rfl) a0).setCell (p := ⟨b, 1, none⟩) (.inl rfl) a1).setCell (p := ⟨b, 2, none⟩) (.inl rfl) a2).setCell (p := ⟨b, 3, none⟩) (.inl rfl) a3).setCell (p := ⟨b, 4, none⟩) (.inl rfl) a4
/-- A disk as a value, its rows of its own. -/
def DvQ (w : World) (v : Value) (d : Dsk) : Prop := ∃ AE cE AW cW, v = .agg #[.int .i64 d.size, .slice AE d.exts.length cE, .slice AW d.waits.length cW, .int .i64 d.fuse, .bool d.down] ∧ w.ownsRow 0 77 2 (.slice AE d.exts.length cE) d.exts.length (flatE d.exts) ∧ w.ownsRow 0 79 3 (.slice AW d.waits.length cW) d.waits.length (flatW d.waits)
theorem DvQ.dv {w : World} {v : Value} {d : Dsk} (h : DvQ w v d) : Dv w w.heap.size v d := by
  obtain ⟨AE, cE, AW, cW, rfl, h1, h2⟩ := h
  exact ⟨AE, cE, AW, cW, rfl, own_rdk h1, own_rdk h2⟩
theorem DvQ.keep {w w' : World} {v : Value} {d : Dsk} (h : DvQ w v d) (hb : Below w.heap.size w w') : DvQ w' v d := by
  obtain ⟨AE, cE, AW, cW, rfl, h1, h2⟩ := h
  exact ⟨AE, cE, AW, cW, rfl, own_keep h1 hb, own_keep h2 hb⟩
def putTail (name : ByteArray) (width count : Nat) (r : Dsk × Int) : Dsk × Int :=
  if r.2 ≠ 0 then r
  else if (writeD (syncD r.1) name 0 (headOf width count)).2 ≠ 0 then writeD (syncD r.1) name 0 (headOf width count) else (syncD (writeD (syncD r.1) name 0 (headOf width count)).1, 0)
def secsR (name P : ByteArray) (n i : Nat) (r : Dsk × Int) : Dsk × Int := if r.2 ≠ 0 then r else putSecs name P (n - i) i r.1
theorem putD_eq {d : Dsk} {name : ByteArray} {width count n : Nat} {body : ByteArray} (h0 : (openD d).2 = 0) (hn : needW (width : Nat) count = (n, 0)) : putD d name width count body = putTail name width count (secsR name (padB body) n 1 (newD d name (n : Nat))) := by
  unfold putD putTail secsR
  rw [if_neg (by rw [h0]; simp), hn]
  simp only [ne_eq, not_true_eq_false, if_false]
  by_cases h : (newD d name (n : Nat)).2 = 0
  · simp only [h, not_true_eq_false, if_false]
  · simp only [h, not_false_eq_true, if_true]
theorem secs_step {name P : ByteArray} {n i : Nat} {d : Dsk} (h : i < n) : secsR name P n i (d, 0) = secsR name P n (i + 1) (writeD d name (i : Nat) (P.extract (64 * (i - 1)) (64 * i))) := by
  unfold secsR
  rw [if_neg (by simp), show n - i = (n - (i + 1)) + 1 by omega, putSecs]
theorem secs_end {name P : ByteArray} {n : Nat} {r : Dsk × Int} : secsR name P n n r = r := by
  unfold secsR
  split
  · rfl
  · rename_i h
    rw [Nat.sub_self, putSecs]
    simp only [ne_eq, Decidable.not_not] at h
    rw [← h]
theorem secs_bad {name P : ByteArray} {n i : Nat} {r : Dsk × Int} (h : r.2 ≠ 0) : secsR name P n i r = r := by unfold secsR; rw [if_pos h]
theorem pad_size (s : ByteArray) : (padB s).size = 64 * ((s.size + 63) / 64) := by
  unfold padB
  split
  · rw [ByteArray.size_append]
    have : (zerosB (64 - s.size % 64)).size = 64 - s.size % 64 := by unfold zerosB; show (List.replicate _ _).toArray.size = _; simp
    rw [this]
    omega
  · omega
theorem ext_ext (P : ByteArray) (a b c : Nat) (hc : a + c ≤ P.size) : (P.extract a P.size).extract b c = P.extract (a + b) (a + c) := by
  rw [ByteArray.extract_extract]
  congr 1
  omega
/-- What is to be shown of put's answer. -/
def PutA (w : World) (r : Dsk × Int) (e : Ending) (w' : World) : Prop := (∃ v, e = .returned (.tuple #[v, .int .i64 r.2]) ∧ DvQ w' v r.1) ∧ Below w.heap.size w w'
theorem own_pt5 {w : World} {g base e size n : Nat} {v : Value} {xs : List Value} (h : w.ownsRow base e size v n xs) (hg : v.ownBlock ≠ some g) (a0 a1 a2 a3 a4 : Value) : (pt5 w g a0 a1 a2 a3 a4).ownsRow base e size v n xs :=
  own_set (own_set (own_set (own_set (own_set h (p := ⟨g, 0, none⟩) hg a0) (p := ⟨g, 1, none⟩) hg a1) (p := ⟨g, 2, none⟩) hg a2) (p := ⟨g, 3, none⟩) hg a3) (p := ⟨g, 4, none⟩) hg a4
/-- A disk at work, handed back in a cell of its own. -/
theorem DvAt.out {W : World} {B : Fld} {q b : Nat} {d : Dsk} {z : Array Value} (h : DvAt W B q d) (hr : Bk W b 25 z) : ∃ AE cE AW cW, Bk W q 117 #[.int .i64 d.size, .slice AE d.exts.length cE, .slice AW d.waits.length cW, .int .i64 d.fuse, .bool d.down] ∧ ∀ W', W' = pt5 W b (.int .i64 d.size) (.slice AE d.exts.length cE) (.slice AW d.waits.length cW) (.int .i64 d.fuse) (.bool d.down) → DvQ W' (.agg #[.int .i64 d.size, .slice AE d.exts.length cE, .slice AW d.waits.length cW, .int .i64 d.fuse, .bool d.down]) d := by
  obtain ⟨E, W0, hk, hE, hW, _⟩ := h
  obtain ⟨AE, cE, rfl⟩ := own_formk hE
  obtain ⟨AW, cW, rfl⟩ := own_formk hW
  refine ⟨AE, cE, AW, cW, hk, ?_⟩
  rintro W' rfl
  exact ⟨AE, cE, AW, cW, rfl, own_pt5 hE (fun e => own_ne hE hr (by decide) e.symm) _ _ _ _ _, own_pt5 hW (fun e => own_ne hW hr (by decide) e.symm) _ _ _ _ _⟩
theorem DvQ.pt5 {w : World} {v : Value} {d : Dsk} {b : Nat} {z : Array Value} (h : DvQ w v d) (hr : Bk w b 25 z) (a0 a1 a2 a3 a4 : Value) : DvQ (pt5 w b a0 a1 a2 a3 a4) v d := by
  obtain ⟨AE, cE, AW, cW, rfl, h1, h2⟩ := h
  exact ⟨AE, cE, AW, cW, rfl, own_pt5 h1 (fun e => own_ne h1 hr (by decide) e.symm) _ _ _ _ _, own_pt5 h2 (fun e => own_ne h2 hr (by decide) e.symm) _ _ _ _ _⟩
set_option maxRecDepth 100000 in
theorem res_put {W : World} {g : Nat} {c0 c1 c2 c3 c4 : Value} {z : Int} {tmps : Array Value} (h : Bk W g 25 #[c0, c1, c2, c3, c4]) (h2 : tmps.getD 10 undef = .pointer (some ⟨g, 0, none⟩)) (h3 : tmps.getD 11 undef = .int .i64 z) :
    (results Tryz.f70 tmps).run Tryz.prog W = .ok (.tuple #[.agg #[c0, c1, c2, c3, c4], .int .i64 z]) W := by
  have d0 : W.cell? ⟨g, 0, none⟩ = some c0 := h.cell 0
  have d1 : W.cell? ⟨g, 1, none⟩ = some c1 := h.cell 1
  have d2 : W.cell? ⟨g, 2, none⟩ = some c2 := h.cell 2
  have d3 : W.cell? ⟨g, 3, none⟩ = some c3 := h.cell 3
  have d4 : W.cell? ⟨g, 4, none⟩ = some c4 := h.cell 4
  rw [Array.getD_eq_getD_getElem?] at h2 h3
  simp [results, Tryz.results70, go_sem, h2, h3, asAddr, d0, d1, d2, d3, d4]
theorem put_end {w W : World} {b : Nat} {d : Dsk} {r : Dsk × Int} {z : Int} {AE AW : Option Addr} {cE cW : Nat} (hr : r = (d, z)) (h : ∀ W', W' = pt5 W b (.int .i64 d.size) (.slice AE d.exts.length cE) (.slice AW d.waits.length cW) (.int .i64 d.fuse) (.bool d.down) → DvQ W' (.agg #[.int .i64 d.size, .slice AE d.exts.length cE, .slice AW d.waits.length cW, .int .i64 d.fuse, .bool d.down]) d)
    (hb : Below w.heap.size w W ∧ w.heap.size ≤ b) : PutA w r (.returned (.tuple #[.agg #[.int .i64 d.size, .slice AE d.exts.length cE, .slice AW d.waits.length cW, .int .i64 d.fuse, .bool d.down], .int .i64 z])) (pt5 W b (.int .i64 d.size) (.slice AE d.exts.length cE) (.slice AW d.waits.length cW) (.int .i64 d.fuse) (.bool d.down)) := by
  subst hr
  exact ⟨⟨_, rfl, h _ rfl⟩, hb.1.trans ((pt5_fr W b _ _ _ _ _).toBelowB (fun k hk => by subst hk; exact hb.2) hb.1.size)⟩
set_option maxRecDepth 100000 in
set_option maxHeartbeats 8000000 in
theorem put_any (v : Value) (d : Dsk) (name body : ByteArray) (width count : Nat) (w : World) (hv : Dv w w.heap.size v d) (hz : SzD d) (hw8 : width ≤ 8) (hct : count ≤ 65536) (hbody : body.size = eachW width * count) :
    Calls Tryz.prog 70 #[v, .string name, .int .i64 (width : Nat), .int .i64 (count : Nat), .string body] w (PutA w (putD d name width count body)) := by
  have hop := fun (W : World) (h : Below w.heap.size w W) => open_disk v d W ((hv.below h).more h.size) hz
  obtain ⟨AE, cE, AW, cW, rfl, hE, hW⟩ := hv
  obtain ⟨W0, hW0⟩ : ∃ W0, W0 = (w.alloc (.cells #[.int .i64 d.size, .slice AE d.exts.length cE, .slice AW d.waits.length cW, .int .i64 d.fuse, .bool d.down] 25)).alloc (.cells #[.int .i64 0, .slice none 0 0, .slice none 0 0, .int .i64 0, .bool false] 25) := ⟨_, rfl⟩
  have hb0 : Below w.heap.size w W0 := by rw [hW0]; exact ba2 _ _ _
  have kp0 : Bk W0 w.heap.size 25 #[.int .i64 d.size, .slice AE d.exts.length cE, .slice AW d.waits.length cW, .int .i64 d.fuse, .bool d.down] := by rw [hW0]; exact (Bk.new _ _ _).alloc _
  have kr0 : Bk W0 (w.heap.size + 1) 25 #[.int .i64 0, .slice none 0 0, .slice none 0 0, .int .i64 0, .bool false] := by rw [hW0]; exact Bk.new1 _ _ _ _
  have p0 := kp0.cell 0
  have p1 := kp0.cell 1
  have p2 := kp0.cell 2
  have p3 := kp0.cell 3
  have p4 := kp0.cell 4
  have lp := kp0.lt
  have hro := openD_right d
  have hO := hop W0 hb0
  obtain ⟨d0, z0, hoz⟩ : ∃ d0 z0, openD d = (d0, z0) := ⟨_, _, rfl⟩
  have hsame : z0 = 0 → d0 = d := fun h => by
    unfold openD at hoz
    split at hoz
    · cases hoz; rfl
    · cases hoz; cases h
  rw [hoz] at hO hro
  have HO := hide hO
  have HW0 := hide hW0
  have HB0 := hide hb0
  have HR0 := hide kr0
  have HRo := hide hro
  have HW0w := hide hb0.size
  have HW0s := hide (Nat.le_refl W0.heap.size)
  clear hE hW hop hW0 hb0 kp0 kr0 hO hro
  go_enter Tryz.func70, Tryz.ntmps70
  go_upto_region 2 with (rw [← HW0.out]; go_at_call 72; refine Calls.mono HO.out ?_; rintro e w1 ⟨q, rfl, hd1, hb1⟩; have HD1 := hide hd1; have HB1 := hide (HB0.out.trans (hb1.mono HB0.out.size)); have HB1w := hide hb1.size; have HR1 := hide (HR0.out.keep hb1); clear hd1 hb1)
  by_cases h0 : z0 = 0
  · have he := hsame h0
    subst he
    subst h0
    obtain ⟨n, hn⟩ : ∃ n, n = 1 + (eachW width * count + 63) / 64 := ⟨_, rfl⟩
    have hew : eachW width ≤ 40 := by unfold eachW; split <;> omega
    have hec : eachW width * count ≤ 40 * 65536 := Nat.mul_le_mul hew hct
    have hn1 : 1 ≤ n := by omega
    have hn2 : n ≤ 50000 := by omega
    have hnw : needW (width : Nat) count = (n, 0) := by
      unfold needW
      rw [if_neg (by omega), hn]
      rfl
    obtain ⟨R, hR⟩ : ∃ R, R = secsR name (padB body) n 1 (newD d0 name (n : Nat)) := ⟨_, rfl⟩
    have HPut := hide (show putD d0 name width count body = putTail name width count R by rw [putD_eq (by rw [hoz]) hnw, hR])
    have hps : (padB body).size = 64 * (n - 1) := by rw [pad_size, hbody, hn]; omega
    have hpa := fun W => padded_any body W (by omega)
    obtain ⟨P, hP⟩ : ∃ P, P = padB body := ⟨_, rfl⟩
    rw [← hP] at hR hps hpa
    have hne := fun W => need_any (width : Nat) count W
    rw [hnw] at hne
    have hnd := new_disk (fl W0.heap.size) q d0 name (n : Nat) w1 HD1.out HRo.out (by omega)
    have hnr := newD_right HRo.out name (n : Nat)
    obtain ⟨d1, y1, hdn⟩ : ∃ d1 y1, newD d0 name (n : Nat) = (d1, y1) := ⟨_, _, rfl⟩
    rw [hdn] at hR hnd hnr
    have hcw : IntKind.u64.wrap (count : Int) = (count : Int) := IntWalk.u64_in _ ⟨by omega, by omega⟩
    have HPa := hide hpa
    have HNe := hide hne
    have HNd := hide hnd
    have HRn := hide hnr
    have HR := hide hR
    have hPe : P.extract (64 * (1 - 1)) P.size = P := by simp
    have HPe := hide hPe
    have hps2 := hps
    have HPs := hide hps
    have hl1 : w1.heap.size ≤ w1.heap.size := Nat.le_refl _
    clear hoz hsame p0 p1 p2 p3 p4 lp hn hew hec hnw hR hps hpa hne hnd hnr hdn hP HO HRo hPe hps2 hl1 hbody
    go_wp2_with (first
      | (go_at_call 85; refine Calls.mono (HNe.out _) ?_; rintro e w2 ⟨rfl, ew⟩; obtain rfl : w1 = w2 := ew.symm)
      | (go_at_call 110; refine Calls.mono HNd.out ?_; rintro e w2 ⟨rfl, hd2, hf2⟩; have HD2 := hide hd2; have HR2 := hide (HR1.out.afr hf2 (by unfold DTy; decide)); have HB2 := hide (HB1.out.trans ((hf2.toBelow (Nat.le_trans HW0s.out HB1w.out)).mono HW0w.out)); have HW2 := hide (Nat.le_trans HB1w.out hf2.size); clear hd2 hf2)
      | (go_at_call 111; refine Calls.mono (HPa.out _) ?_; rintro e w3 ⟨rfl, hb3⟩; have HD3 := hide (HD2.out.keep hb3); have HR3 := hide (HR2.out.keep hb3); have HB3 := hide (HB2.out.trans (hb3.mono HB2.out.size)); have HW3 := hide (Nat.le_trans HW2.out hb3.size); clear hb3))
    have HB4 := hide HB3.out
    clear HD2 HR2 HB2 HNd HNe HPa ew
    go_loopw [13, 15, 16] (fun yv iv av wr => ∃ (i : Nat) (dd : Dsk) (y : Int), yv = .int .i64 y ∧ iv = .int .i64 i ∧ av = .string (P.extract (64 * (i - 1)) P.size) ∧ 1 ≤ i ∧ i ≤ n ∧ Hid (R = secsR name P n i (dd, y)) ∧ Hid (DvAt wr (fl W0.heap.size) q dd) ∧ Hid (Right dd) ∧ Hid (Bk wr (w.heap.size + 1) 25 #[.int .i64 0, .slice none 0 0, .slice none 0 0, .int .i64 0, .bool false]) ∧ Hid (Below w.heap.size w wr) ∧ Hid (W0.heap.size ≤ wr.heap.size)) (fun _ iv _ _ => n - (intOf iv).toNat)
    case atStart => exact ⟨1, d1, y1, rfl, rfl, by rw [HPe.out], by omega, by omega, HR, HD3, HRn, HR3, HB3, HW3⟩
    case round =>
      clear HR HD3 HRn HR3 HB3 HPe HB4
      obtain ⟨i, dd, y, rfl, rfl, rfl, hi1, hin, hRr, hD, hRt, hRb, hB, hW⟩ := hrel
      by_cases hgo : i < n ∧ y = 0
      · obtain ⟨hlt, rfl⟩ := hgo
        have hps := HPs.out
        obtain ⟨A, hA⟩ : ∃ A, A = P.extract (64 * (i - 1)) P.size := ⟨_, rfl⟩
        rw [← hA]
        have hAs : 64 ≤ A.size := by rw [hA, ByteArray.size_extract]; omega
        have hc1 : A.extract 0 64 = P.extract (64 * (i - 1)) (64 * i) := by
          rw [hA, ext_ext P _ 0 64 (by omega)]
          congr 1
          omega
        have hc2 : A.extract 64 A.size = P.extract (64 * (i + 1 - 1)) P.size := by
          have : A.size = P.size - 64 * (i - 1) := by rw [hA, ByteArray.size_extract]; omega
          rw [this, hA, ext_ext P _ 64 _ (by omega)]
          congr 1 <;> omega
        have hR2 : R = _ := hRr.out
        rw [secs_step hlt, ← hc1] at hR2
        obtain ⟨C, hC⟩ : ∃ C, C = A.extract 0 64 := ⟨_, rfl⟩
        obtain ⟨A2, hA2⟩ : ∃ A2, A2 = A.extract 64 A.size := ⟨_, rfl⟩
        rw [← hC] at hR2
        rw [← hA2] at hc2
        have hCe : A.extract 0 64 = C := hC.symm
        have hA2e : A.extract 64 A.size = A2 := hA2.symm
        have hwr := write_disk (fl W0.heap.size) q dd name (i : Nat) C wr hD.out hRt.out
        have hwt := writeD_right hRt.out name (i : Nat) C
        obtain ⟨d2, y2, hwd⟩ : ∃ d2 y2, writeD dd name (i : Nat) C = (d2, y2) := ⟨_, _, rfl⟩
        rw [hwd] at hR2 hwr hwt
        have HWr := hide hwr
        have HWt := hide hwt
        have HR2 := hide hR2
        have HA2 := hide hc2
        clear hps hA hc1 hc2 hR2 hC hA2 hwr hwt hwd hRr
        go_wp2_with (go_at_call 112; refine Calls.mono HWr.out ?_; rintro e w4 ⟨rfl, hd4, hf4⟩; have HD4 := hide hd4; have HR4 := hide (hRb.out.afr hf4 (by unfold DTy; decide)); have HB4 := hide (hB.out.trans ((hf4.toBelow hW.out).mono HW0w.out)); have HW4 := hide (Nat.le_trans hW.out hf4.size); clear hd4 hf4)
        go_region
        go_wp2_with fail
        exact ⟨⟨i + 1, d2, y2, rfl, by simp, by rw [HA2.out], by omega, by omega, HR2, hide HD4.out.drew, HWt, hide (show Bk w4 _ _ _ from HR4.out), hide HB4.out.drew, hide (show _ ≤ w4.heap.size from HW4.out)⟩, by simp [intOf]; omega⟩
      · have hRe : R = (dd, y) := by
          rw [hRr.out]
          by_cases hy : y = 0
          · obtain rfl : i = n := by omega
            exact secs_end
          · exact secs_bad hy
        by_cases hy : y = 0
        · obtain rfl : i = n := by omega
          subst hy
          have hni : ¬ (i : Int) < (i : Int) := by omega
          have hPut := HPut.out
          rw [hRe] at hPut
          have hsy := sync_disk (fl W0.heap.size) q dd wr hD.out hRt.out
          have hsr := settleD_right hRt.out (fun _ => true)
          obtain ⟨d5, hd5⟩ : ∃ d5, d5 = syncD dd := ⟨_, rfl⟩
          rw [← hd5] at hsy
          rw [show settleD (fun _ => true) dd = d5 from hd5.symm] at hsr
          obtain ⟨H, hH⟩ : ∃ H, H = headOf width count := ⟨_, rfl⟩
          have hho := fun W => headOf_any width count W (by omega)
          rw [← hH] at hho
          have hwr := fun W h => write_disk (fl W0.heap.size) q d5 name 0 H W h hsr
          have hwt := writeD_right hsr name 0 H
          obtain ⟨d6, y6, hwd⟩ : ∃ d6 y6, writeD d5 name 0 H = (d6, y6) := ⟨_, _, rfl⟩
          rw [hwd] at hwr hwt
          have hPut2 : putD d0 name width count body = if y6 ≠ 0 then (d6, y6) else (syncD d6, 0) := by
            rw [hPut]
            unfold putTail
            simp only [ne_eq, not_true_eq_false, if_false]
            rw [← hd5, ← hH, hwd]
          have hs7 := fun W h => sync_disk (fl W0.heap.size) q d6 W h hwt
          have HSy := hide hsy
          have HHo := hide hho
          have HWr := hide hwr
          have HS7 := hide hs7
          have HPut2 := hide hPut2
          clear hRe hPut hsy hsr hd5 hH hho hwr hwt hwd hPut2 hs7 hRr HPut
          by_cases h6 : y6 = 0
          · subst h6
            have HRe := hide (show putD d0 name width count body = (syncD d6, 0) by rw [HPut2.out]; rfl)
            clear HPut2
            go_wp2_with (first | (have hx := HD6; clear hx; go_at_call 104; refine Calls.mono (HS7.out _ HD6.out) ?_; rintro e w7 ⟨rfl, hd7, hf7⟩; have hdv9 := hd7; have rz9 := HR6.out.afr hf7 (by unfold DTy; decide); obtain ⟨AE9, cE9, AW9, cW9, hq9, hd9⟩ := DvAt.out hdv9 rz9; have qy0 := hq9.cell 0; have qy1 := hq9.cell 1; have qy2 := hq9.cell 2; have qy3 := hq9.cell 3; have qy4 := hq9.cell 4; have qlt := hq9.lt; have rc0 := rz9.cell 0; have rf0 := rz9.free 0; have rc1 := rz9.cell 1; have rf1 := rz9.free 1; have rc2 := rz9.cell 2; have rf2 := rz9.free 2; have rc3 := rz9.cell 3; have rf3 := rz9.free 3; have rc4 := rz9.cell 4; have rf4 := rz9.free 4; have rlt := rz9.lt; have HD9 := hide hd9; have HZ9 := hide rz9; have HB9 := hide (show Below w.heap.size w _ ∧ w.heap.size ≤ w.heap.size + 1 from ⟨HB6.out.trans ((hf7.toBelow HW6.out).mono HW0w.out), by omega⟩); clear hq9 hd9 rz9 hdv9; clear hd7 hf7) | (have hx := HDH; clear hx; go_at_call 112; refine Calls.mono (HWr.out _ HDH.out) ?_; rintro e w6 ⟨rfl, hd6, hf6⟩; have HD6 := hide hd6; have HR6 := hide (HRH.out.afr hf6 (by unfold DTy; decide)); have HB6 := hide (HBH.out.trans ((hf6.toBelow HWH.out).mono HW0w.out)); have HW6 := hide (Nat.le_trans HWH.out hf6.size); clear hd6 hf6) | (go_at_call 113; refine Calls.mono (HHo.out _) ?_; rintro e wh ⟨rfl, hbh⟩; have HDH := hide (HD5.out.keep hbh); have HRH := hide (HR5.out.keep hbh); have HBH := hide (HB5.out.trans (hbh.mono HB5.out.size)); have HWH := hide (Nat.le_trans HW5.out hbh.size); clear hbh) | (go_at_call 104; refine Calls.mono HSy.out ?_; rintro e w5 ⟨rfl, hd5, hf5⟩; have HD5 := hide hd5; have HR5 := hide (hRb.out.afr hf5 (by unfold DTy; decide)); have HB5 := hide (hB.out.trans ((hf5.toBelow hW.out).mono HW0w.out)); have HW5 := hide (Nat.le_trans hW.out hf5.size); clear hd5 hf5))
            refine bodyPost_ret (v := .tuple #[_, .int .i64 _]) (res_put (pt5_bk HZ9.out _ _ _ _ _) rfl rfl) rfl ?_
            exact put_end HRe.out HD9.out HB9.out
          · have HRe := hide (show putD d0 name width count body = (d6, y6) by rw [HPut2.out, if_pos h6])
            have hy6 : (y6 == 0) = false := by simpa using h6
            clear HPut2
            go_wp2_with (first | (have hx := HDH; clear hx; go_at_call 112; refine Calls.mono (HWr.out _ HDH.out) ?_; rintro e w6 ⟨rfl, hd6, hf6⟩; have HD6 := hide hd6; have HR6 := hide (HRH.out.afr hf6 (by unfold DTy; decide)); have HB6 := hide (HBH.out.trans ((hf6.toBelow HWH.out).mono HW0w.out)); have HW6 := hide (Nat.le_trans HWH.out hf6.size); clear hd6 hf6; have hdv9 := HD6.out; have rz9 := HR6.out; obtain ⟨AE9, cE9, AW9, cW9, hq9, hd9⟩ := DvAt.out hdv9 rz9; have qy0 := hq9.cell 0; have qy1 := hq9.cell 1; have qy2 := hq9.cell 2; have qy3 := hq9.cell 3; have qy4 := hq9.cell 4; have qlt := hq9.lt; have rc0 := rz9.cell 0; have rf0 := rz9.free 0; have rc1 := rz9.cell 1; have rf1 := rz9.free 1; have rc2 := rz9.cell 2; have rf2 := rz9.free 2; have rc3 := rz9.cell 3; have rf3 := rz9.free 3; have rc4 := rz9.cell 4; have rf4 := rz9.free 4; have rlt := rz9.lt; have HD9 := hide hd9; have HZ9 := hide rz9; have HB9 := hide (show Below w.heap.size w _ ∧ w.heap.size ≤ w.heap.size + 1 from ⟨HB6.out, by omega⟩); clear hq9 hd9 rz9 hdv9) | (go_at_call 113; refine Calls.mono (HHo.out _) ?_; rintro e wh ⟨rfl, hbh⟩; have HDH := hide (HD5.out.keep hbh); have HRH := hide (HR5.out.keep hbh); have HBH := hide (HB5.out.trans (hbh.mono HB5.out.size)); have HWH := hide (Nat.le_trans HW5.out hbh.size); clear hbh) | (go_at_call 104; refine Calls.mono HSy.out ?_; rintro e w5 ⟨rfl, hd5, hf5⟩; have HD5 := hide hd5; have HR5 := hide (hRb.out.afr hf5 (by unfold DTy; decide)); have HB5 := hide (hB.out.trans ((hf5.toBelow hW.out).mono HW0w.out)); have HW5 := hide (Nat.le_trans hW.out hf5.size); clear hd5 hf5))
            refine bodyPost_ret (v := .tuple #[_, .int .i64 _]) (res_put (pt5_bk HZ9.out _ _ _ _ _) rfl rfl) rfl ?_
            exact put_end HRe.out HD9.out HB9.out
        · have hy0 : (y == 0) = false := by simpa using hy
          have HRe := hide (show putD d0 name width count body = (dd, y) by rw [HPut.out, hRe]; unfold putTail; rw [if_pos hy])
          clear hRe hRr HPut hgo
          by_cases hlt : (i : Int) < (n : Int)
          · skip
            obtain ⟨AE9, cE9, AW9, cW9, hq9, hd9⟩ := DvAt.out hD.out hRb.out
            have rz9 := hRb.out
            have qy0 := hq9.cell 0
            have qy1 := hq9.cell 1
            have qy2 := hq9.cell 2
            have qy3 := hq9.cell 3
            have qy4 := hq9.cell 4
            have qlt := hq9.lt
            have rc0 := rz9.cell 0
            have rf0 := rz9.free 0
            have rc1 := rz9.cell 1
            have rf1 := rz9.free 1
            have rc2 := rz9.cell 2
            have rf2 := rz9.free 2
            have rc3 := rz9.cell 3
            have rf3 := rz9.free 3
            have rc4 := rz9.cell 4
            have rf4 := rz9.free 4
            have rlt := rz9.lt
            have HD9 := hide hd9
            have HZ9 := hide rz9
            have HB9 := hide (show Below w.heap.size w _ ∧ w.heap.size ≤ w.heap.size + 1 from ⟨hB.out, by omega⟩)
            clear hq9 hd9 rz9
            go_wp2_with fail
            refine bodyPost_ret (v := .tuple #[_, .int .i64 _]) (res_put (pt5_bk HZ9.out _ _ _ _ _) rfl rfl) rfl ?_
            exact put_end HRe.out HD9.out HB9.out
          · skip
            obtain ⟨AE9, cE9, AW9, cW9, hq9, hd9⟩ := DvAt.out hD.out hRb.out
            have rz9 := hRb.out
            have qy0 := hq9.cell 0
            have qy1 := hq9.cell 1
            have qy2 := hq9.cell 2
            have qy3 := hq9.cell 3
            have qy4 := hq9.cell 4
            have qlt := hq9.lt
            have rc0 := rz9.cell 0
            have rf0 := rz9.free 0
            have rc1 := rz9.cell 1
            have rf1 := rz9.free 1
            have rc2 := rz9.cell 2
            have rf2 := rz9.free 2
            have rc3 := rz9.cell 3
            have rf3 := rz9.free 3
            have rc4 := rz9.cell 4
            have rf4 := rz9.free 4
            have rlt := rz9.lt
            have HD9 := hide hd9
            have HZ9 := hide rz9
            have HB9 := hide (show Below w.heap.size w _ ∧ w.heap.size ≤ w.heap.size + 1 from ⟨hB.out, by omega⟩)
            clear hq9 hd9 rz9
            go_wp2_with fail
            refine bodyPost_ret (v := .tuple #[_, .int .i64 _]) (res_put (pt5_bk HZ9.out _ _ _ _ _) rfl rfl) rfl ?_
            exact put_end HRe.out HD9.out HB9.out
  · have HRe := hide (show putD d name width count body = (d0, z0) by unfold putD; rw [if_pos (by rw [hoz]; exact h0), hoz])
    have hz0 : (z0 == 0) = false := by simpa using h0
    clear hoz hsame p0 p1 p2 p3 p4 lp
    obtain ⟨AE9, cE9, AW9, cW9, hq9, hd9⟩ := DvAt.out HD1.out HR1.out
    have qy0 := hq9.cell 0
    have qy1 := hq9.cell 1
    have qy2 := hq9.cell 2
    have qy3 := hq9.cell 3
    have qy4 := hq9.cell 4
    have qlt := hq9.lt
    have rz9 := HR1.out
    have rc0 := rz9.cell 0
    have rc1 := rz9.cell 1
    have rc2 := rz9.cell 2
    have rc3 := rz9.cell 3
    have rc4 := rz9.cell 4
    have rf0 := rz9.free 0
    have rf1 := rz9.free 1
    have rf2 := rz9.free 2
    have rf3 := rz9.free 3
    have rf4 := rz9.free 4
    have rlt := rz9.lt
    have HD9 := hide hd9
    have HZ9 := hide rz9
    have HB9 := hide (show Below w.heap.size w w1 ∧ w.heap.size ≤ w.heap.size + 1 from ⟨HB1.out, by omega⟩)
    clear hq9 hd9 rz9
    go_wp2_with fail
    refine bodyPost_ret (v := .tuple #[_, .int .i64 _]) (res_put (pt5_bk HZ9.out _ _ _ _ _) rfl rfl) rfl ?_
    exact put_end HRe.out HD9.out HB9.out
end Go.Proofs.YtmopegpkoedgbaaGreatDoor
