/- Lemmas for the row: FrS, FrT, FrU. -/
import Derived.Test.YtahnnebpadbopaaGreatDoorM16
import Derived.Lib.AtoiTie
import Derived.Lib.IndexLaws
import Derived.Lib.ParseIntBTie
set_option linter.unusedVariables false
/- A step's line is read back, and only so; the document's guess is right at it. No program in sight. -/
namespace Go.Proofs.YtahnnebpadbopaaGreatDoor
open Go.RowKit Go.Lib

/-! ### Numbers -/
theorem dig_toNat (d : Nat) (h : d < 10) : (UInt8.ofNat (48 + d)).toNat = 48 + d := by rw [UInt8.toNat_ofNat']; omega
theorem digitVal_dig (d : Nat) (h : d < 10) : digitVal (UInt8.ofNat (48 + d)) = some d := by
  unfold digitVal
  rw [dig_toNat d h, if_pos (by omega)]
  congr 1; omega
theorem decFrom_snoc (l : List UInt8) (c : UInt8) : ∀ acc, decFrom acc (l ++ [c]) = (decFrom acc l).bind fun m => (digitVal c).map fun d => m * 10 + d := by
  induction l with
  | nil =>
    intro acc
    simp only [List.nil_append, decFrom]
    cases digitVal c <;> rfl
  | cons b l ih =>
    intro acc
    simp only [List.cons_append, decFrom]
    cases digitVal b with
    | none => rfl
    | some d => exact ih _
theorem decFrom_dec (u : Nat) : decFrom 0 (decDigits u) = some u := by
  induction u using Nat.strongRecOn with
  | _ u ih =>
    rw [decDigits]
    split
    · rename_i h
      simp only [decFrom, digitVal_dig u h]
      simp
    · rename_i h
      rw [decFrom_snoc, ih (u / 10) (by omega), digitVal_dig _ (by omega)]
      simp
      omega
theorem dec_ne (u : Nat) : decDigits u ≠ [] := by
  rw [decDigits]; split <;> simp
theorem dec_digit (u : Nat) : ∀ c ∈ decDigits u, 48 ≤ c.toNat ∧ c.toNat ≤ 57 := by
  induction u using Nat.strongRecOn with
  | _ u ih =>
    rw [decDigits]
    split
    · rename_i h
      intro c hc
      simp only [List.mem_singleton] at hc
      rw [hc, dig_toNat u h]; omega
    · rename_i h
      intro c hc
      rcases List.mem_append.1 hc with hc | hc
      · exact ih (u / 10) (by omega) c hc
      · simp only [List.mem_singleton] at hc
        rw [hc, dig_toNat _ (by omega)]; omega
theorem dec_length : ∀ (k u : Nat), u < 10 ^ (k + 1) → (decDigits u).length ≤ k + 1 := by
  intro k
  induction k with
  | zero =>
    intro u h
    rw [decDigits, dif_pos (by omega)]
    simp
  | succ k ih =>
    intro u h
    rw [decDigits]
    split
    · simp
    · rw [List.length_append]
      have := ih (u / 10) (by rw [Nat.pow_succ] at h; omega)
      simp; omega
theorem decNat_dec (u : Nat) : decNat (decDigits u) = some u := by
  unfold decNat
  have := dec_ne u
  rw [if_neg (by simpa using this), decFrom_dec]
theorem dec_head (u : Nat) : ∃ b r, decDigits u = b :: r ∧ 48 ≤ b.toNat ∧ b.toNat ≤ 57 := by
  cases h : decDigits u with
  | nil => exact absurd h (dec_ne u)
  | cons b r => exact ⟨b, r, rfl, dec_digit u b (by rw [h]; exact List.mem_cons_self ..)⟩
theorem atoi_itoa (v : Int) : atoi (itoa v) = some v := by
  unfold itoa
  split
  · rename_i h
    simp only [atoi, decNat_dec]
    simp
    omega
  · rename_i h
    obtain ⟨b, r, e, h1, h2⟩ := dec_head v.toNat
    have hd := decNat_dec v.toNat
    rw [e] at hd ⊢
    have n1 : (b == 45) = false := by
      rw [beq_eq_false_iff_ne]; rintro rfl; exact absurd h1 (by decide)
    have n2 : (b == 43) = false := by
      rw [beq_eq_false_iff_ne]; rintro rfl; exact absurd h1 (by decide)
    simp only [atoi, n1, n2, hd]
    simp
    omega
theorem itoa_length (v : Int) (h1 : -1000000000 < v) (h2 : v < 1000000000) : (itoa v).length ≤ 10 := by
  unfold itoa
  split
  · have := dec_length 8 v.natAbs (by omega)
    simp; omega
  · have := dec_length 8 v.toNat (by omega)
    omega
theorem num_itoa (v : Int) (h : fitsN v = true) : numB (itoa v) = some v := by
  unfold fitsN at h
  simp only [Bool.and_eq_true, decide_eq_true_eq] at h
  unfold numB
  rw [parseIntB_64, atoiAll_short _ (by have := itoa_length v h.1 h.2; omega), atoi_itoa]
  show (if v ≤ 999999999 ∧ -999999999 ≤ v ∧ itoa v = itoa v then some v else none) = some v
  rw [if_pos ⟨by omega, by omega, rfl⟩]
theorem num_some {l : List UInt8} {v : Int} (h : numB l = some v) : fitsN v = true ∧ itoa v = l := by
  unfold numB at h
  split at h
  · split at h
    · rename_i hc
      cases h
      refine ⟨?_, hc.2.2⟩
      unfold fitsN
      simp only [Bool.and_eq_true, decide_eq_true_eq]
      omega
    · cases h
  · cases h
theorem dig_val (d : Nat) (h : d < 10) : digV (UInt8.ofNat (48 + d)) % 10 = d := by
  unfold digV
  rw [dig_toNat d h, if_pos (by omega)]
  omega
theorem numF_snoc (c : UInt8) : ∀ (f : Nat) (l : List UInt8) (n : Nat), l.length < f → numF f (l ++ [c]) n = 10 * numF f l n + digV c % 10 := by
  intro f
  induction f with
  | zero => intro l n h; omega
  | succ f ih =>
    intro l n h
    cases l with
    | nil =>
      simp only [List.nil_append, numF]
      cases f <;> rfl
    | cons b l =>
      simp only [List.cons_append, numF]
      exact ih l _ (by simpa using h)
theorem numF_dec (u f : Nat) (h : (decDigits u).length ≤ f) : numF f (decDigits u) 0 = u := by
  induction u using Nat.strongRecOn with
  | _ u ih =>
    rw [decDigits] at h ⊢
    split
    · rename_i hu
      rw [dif_pos hu] at h
      obtain ⟨f, rfl⟩ : ∃ k, f = k + 1 := ⟨f - 1, by simp at h; omega⟩
      simp only [numF]
      rw [dig_val u hu]
      cases f <;> simp [numF]
    · rename_i hu
      rw [dif_neg hu, List.length_append] at h
      rw [numF_snoc _ _ _ _ (by simp at h; omega), ih (u / 10) (by omega) (by simp at h; omega), dig_val _ (by omega)]
      omega
theorem number_itoa (v : Int) (h : fitsN v = true) : numberB (itoa v) = v := by
  unfold fitsN at h
  simp only [Bool.and_eq_true, decide_eq_true_eq] at h
  unfold numberB itoa
  by_cases hv : v < 0
  · rw [if_pos hv]
    simp only [List.head?_cons, if_pos, List.drop_succ_cons, List.drop_zero]
    rw [numF_dec _ _ (by have := dec_length 8 v.natAbs (by omega); omega)]
    omega
  · rw [if_neg hv]
    obtain ⟨b, r, e, h1, h2⟩ := dec_head v.toNat
    have n1 : ¬ (decDigits v.toNat).head? = some 45 := by
      rw [e]; simp only [List.head?_cons, Option.some.injEq]; rintro rfl; exact absurd h1 (by decide)
    rw [if_neg n1, numF_dec _ _ (by have := dec_length 8 v.toNat (by omega); omega)]
    omega
/-! ### A line's reader -/
theorem space_cons (r : List UInt8) (b : Bool) : rdSpace (32 :: r, b) = (r, b) := by
  simp [rdSpace, Lib.trimPrefix, Lib.hasPrefix]
theorem space_true {r q : List UInt8} {b : Bool} (h : rdSpace (r, b) = (q, true)) : b = true ∧ r = 32 :: q := by
  unfold rdSpace Lib.trimPrefix at h
  simp only [Prod.mk.injEq, Bool.and_eq_true] at h
  obtain ⟨h1, h2, h3⟩ := h
  rw [if_pos h3] at h1
  match r with
  | [] => simp [Lib.hasPrefix] at h3
  | c :: r =>
    simp [Lib.hasPrefix] at h3
    simp at h1
    exact ⟨h2, by rw [← h3, h1]⟩
theorem text_quote (t q : List UInt8) (b : Bool) : rdText (32 :: (quoteB t ++ q), b) = (t, q, b) := by
  unfold rdText
  rw [space_cons]
  simp only [unquote_quote]
theorem text_true {r t q : List UInt8} {b : Bool} (h : rdText (r, b) = (t, q, true)) : b = true ∧ r = 32 :: (quoteB t ++ q) := by
  unfold rdText at h
  split at h
  · rename_i u hu
    simp only [Prod.mk.injEq] at h
    obtain ⟨h1, h2, h3⟩ := h
    obtain ⟨e1, e2⟩ := space_true (r := r) (b := b) (q := (rdSpace (r, b)).1) (Prod.ext rfl h3)
    refine ⟨e1, ?_⟩
    have := unquote_some (t := u.1) (rest := u.2) hu
    rw [e2, this, h1, h2]
  · simp at h
/-! ### A line -/
theorem quote_free (t : List UInt8) : ∀ c ∈ quoteB t, c ≠ 10 := by
  have hexs : ∀ k : Fin 16, hexD k.val ≠ 10 := by decide
  have : ∀ c : UInt8, ∀ d ∈ quoteC c, d ≠ 10 := by
    intro c d hd
    unfold quoteC at hd
    split at hd
    · rename_i hp
      simp only [List.mem_singleton] at hd
      subst hd
      rintro rfl
      exact absurd hp (by decide)
    · have h1 : c.toNat / 16 < 16 := by have := c.toNat_lt; omega
      have h2 : c.toNat % 16 < 16 := by omega
      simp only [List.mem_cons, List.not_mem_nil, or_false] at hd
      rcases hd with rfl | rfl | rfl | rfl
      · decide
      · decide
      · exact hexs ⟨_, h1⟩
      · exact hexs ⟨_, h2⟩
  unfold quoteB
  intro c hc
  rcases List.mem_cons.1 hc with rfl | hc
  · decide
  · rcases List.mem_append.1 hc with hc | hc
    · obtain ⟨x, _, hx⟩ := List.mem_flatMap.1 hc
      exact this x c hx
    · simp only [List.mem_singleton] at hc
      subst hc; decide
theorem itoa_free (v : Int) : ∀ c ∈ itoa v, c ≠ 10 := by
  unfold itoa
  intro c hc
  split at hc
  · rcases List.mem_cons.1 hc with rfl | hc
    · decide
    · have := dec_digit _ c hc
      rintro rfl; exact absurd this.1 (by decide)
  · have := dec_digit _ c hc
    rintro rfl; exact absurd this.1 (by decide)
theorem args_free (s : Stp) : ∀ c ∈ argsB s, c ≠ 10 := by
  have two : ∀ a b : List UInt8, ∀ c ∈ (32 :: (quoteB a ++ 32 :: quoteB b) : List UInt8), c ≠ 10 := by
    intro a b c hc
    rcases List.mem_cons.1 hc with rfl | hc
    · decide
    · rcases List.mem_append.1 hc with hc | hc
      · exact quote_free _ c hc
      · rcases List.mem_cons.1 hc with rfl | hc
        · decide
        · exact quote_free _ c hc
  unfold argsB
  intro c hc
  split at hc
  · exact two _ _ c hc
  · split at hc
    · rcases List.mem_cons.1 hc with rfl | hc
      · decide
      · exact quote_free _ c hc
    · split at hc
      · exact two _ _ c hc
      · split at hc
        · rcases List.mem_cons.1 hc with rfl | hc
          · decide
          · exact itoa_free _ c hc
        · split at hc
          · rcases List.mem_cons.1 hc with rfl | hc
            · decide
            · obtain ⟨k, _, rfl⟩ := List.mem_map.1 hc
              cases k <;> decide
          · cases hc
theorem verb_free (k : Nat) : ∀ c ∈ verbB k, c ≠ 10 ∧ c ≠ 32 := by
  have : ∀ k : Fin 11, ∀ c ∈ verbB k.val, c ≠ 10 ∧ c ≠ 32 := by decide
  by_cases h : k < 11
  · exact this ⟨k, h⟩
  · intro c hc
    have : verbB k = [] := by
      unfold verbB
      split <;> first | omega | rfl
    rw [this] at hc; cases hc
theorem line_free (s : Stp) : ∀ c ∈ lineB s, c ≠ 10 := by
  unfold lineB
  intro c hc
  rcases List.mem_append.1 hc with hc | hc
  · exact (verb_free _ c hc).1
  · exact args_free _ c hc
theorem space_at (v a : List UInt8) (hv : ∀ c ∈ v, c ≠ 32) (ha : a = [] ∨ ∃ r, a = 32 :: r) : spaceI (v ++ a) = v.length := by
  unfold spaceI
  induction v with
  | nil =>
    rcases ha with rfl | ⟨r, rfl⟩
    · rfl
    · rw [List.nil_append, List.findIdx?_cons]; rfl
  | cons b v ih =>
    have hb : ¬ b = 32 := hv b (List.mem_cons_self ..)
    have hv2 : ∀ c ∈ v, c ≠ 32 := fun c hc => hv c (List.mem_cons_of_mem _ hc)
    have := ih hv2
    rw [List.cons_append, List.findIdx?_cons]
    simp only [hb, decide_false, Bool.false_eq_true, if_false]
    cases hf : List.findIdx? (fun c => decide (c = 32)) (v ++ a) with
    | none =>
      rw [hf] at this
      simp at this ⊢
      omega
    | some j =>
      rw [hf] at this
      simp at this ⊢
      omega
theorem args_head (s : Stp) : argsB s = [] ∨ ∃ r, argsB s = 32 :: r := by
  unfold argsB
  repeat' split
  all_goals first | exact .inr ⟨_, rfl⟩ | exact .inl rfl
theorem kind_verb (k : Nat) (h1 : 1 ≤ k) (h2 : k ≤ 10) : kindB (verbB k) = k := by
  have : ∀ k : Fin 11, 1 ≤ k.val → kindB (verbB k.val) = k.val := by decide
  exact this ⟨k, by omega⟩ h1
theorem kind_some {w : List UInt8} {k : Nat} (h : kindB w = k) (hk : k ≠ 0) : 1 ≤ k ∧ k ≤ 10 ∧ verbB k = w := by
  unfold kindB at h
  cases hf : ((List.range 10).map (· + 1)).find? fun k => decide (verbB k = w) with
  | none => rw [hf] at h; exact absurd h.symm hk
  | some j =>
    rw [hf] at h
    simp at h
    subst h
    have h1 := List.find?_some hf
    have h2 := List.mem_of_find?_eq_some hf
    simp at h1 h2
    exact ⟨by omega, by omega, h1⟩
theorem bl_blB (l : List UInt8) : bl (blB l) = l := rfl
theorem blB_bl (s : ByteArray) : blB (bl s) = s := rfl
theorem size_blB (s : ByteArray) (h : s.size = 0) : s = ⟨#[]⟩ := by
  cases s with | mk d => 
  have : d = #[] := Array.eq_empty_of_size_eq_zero h
  rw [this]
theorem right_parts {s : Stp} (h : rightS s = true) : 1 ≤ s.kind ∧ s.kind ≤ 10 ∧ (hasNm s.kind = true ∨ s.nm = ⟨#[]⟩) ∧ (hasTo s.kind = true ∨ s.to_ = ⟨#[]⟩) ∧ (s.kind = 1 ∨ s.tx = ⟨#[]⟩) ∧ (hasN s.kind = true ∨ s.n = 0) ∧ (s.kind = 10 ∨ s.keep = []) := by
  unfold rightS at h
  simp only [Bool.and_eq_true, Bool.or_eq_true, decide_eq_true_eq] at h
  obtain ⟨⟨⟨⟨⟨⟨h1, h2⟩, h3⟩, h4⟩, h5⟩, h6⟩, h7⟩ := h
  exact ⟨h1, h2, h3.imp_right (size_blB _), h4.imp_right (size_blB _), h5.imp_right (size_blB _), h6, h7⟩
theorem keep_kept (l : List Bool) (hl : l ≠ []) (b : Bool) : rdKeep (32 :: keptB l, b) = (l, b) := by
  unfold rdKeep
  rw [if_neg (by simp), space_cons]
  simp only
  have h1 : (keptB l).map (fun c => decide (c = 49)) = l := by
    unfold keptB
    rw [List.map_map]
    conv => rhs; rw [← List.map_id l]
    refine List.map_congr_left fun k _ => ?_
    cases k <;> rfl
  have h2 : ((keptB l).all fun c => decide (c = 48) || decide (c = 49)) = true := by
    rw [List.all_eq_true]
    intro c hc
    obtain ⟨k, _, rfl⟩ := List.mem_map.1 hc
    cases k <;> rfl
  have h3 : decide (keptB l ≠ []) = true := decide_eq_true (by unfold keptB; simpa using hl)
  rw [h1, h2, h3]
  simp
theorem keep_true {r : List UInt8} {l : List Bool} (h : rdKeep (r, true) = (l, true)) : (r = [] ∧ l = []) ∨ (l ≠ [] ∧ r = 32 :: keptB l) := by
  unfold rdKeep at h
  split at h
  · rename_i hr
    simp at h
    exact .inl ⟨hr, h⟩
  · simp only [Prod.mk.injEq, Bool.and_eq_true, decide_eq_true_eq, List.all_eq_true, Bool.or_eq_true] at h
    obtain ⟨h1, h2, h3, h4⟩ := h
    obtain ⟨_, e⟩ := space_true (r := r) (b := true) (q := (rdSpace (r, true)).1) (Prod.ext rfl h2)
    refine .inr ⟨by rw [← h1]; simpa using h3, ?_⟩
    rw [← h1]
    conv => lhs; rw [e]
    congr 1
    unfold keptB
    rw [List.map_map]
    conv => lhs; rw [← List.map_id (rdSpace (r, true)).1]
    refine List.map_congr_left fun c hc => ?_
    rcases h4 c hc with rfl | rfl <;> rfl
/-- A right step's line is its own. -/
theorem step_line {s : Stp} (hr : rightS s = true) (hf : fitsN s.n = true) : stepB (lineB s) = some s := by
  obtain ⟨h1, h2, h3, h4, h5, h6, h7⟩ := right_parts hr
  unfold stepB lineB
  rw [space_at _ _ (fun c hc => (verb_free _ c hc).2) (args_head s)]
  rw [List.take_append_of_le_length (Nat.le_refl _), List.take_length, List.drop_append_of_le_length (Nat.le_refl _), List.drop_length, List.nil_append, kind_verb _ h1 h2]
  obtain ⟨k, nm, to_, tx, n, keep⟩ := s
  dsimp only at *
  have hk : k = 1 ∨ k = 2 ∨ k = 3 ∨ k = 4 ∨ k = 5 ∨ k = 6 ∨ k = 7 ∨ k = 8 ∨ k = 9 ∨ k = 10 := by omega
  rcases hk with rfl | rfl | rfl | rfl | rfl | rfl | rfl | rfl | rfl | rfl
  · obtain rfl : to_ = ⟨#[]⟩ := h4.resolve_left (by decide)
    obtain rfl : n = 0 := h6.resolve_left (by decide)
    obtain rfl : keep = [] := h7.resolve_left (by decide)
    unfold stepK argsB
    simp only [if_pos, text_quote]
    rw [show quoteB (bl tx) = quoteB (bl tx) ++ [] by simp, text_quote]
    simp [blB_bl]
  · obtain rfl : to_ = ⟨#[]⟩ := h4.resolve_left (by decide)
    obtain rfl : tx = ⟨#[]⟩ := h5.resolve_left (by decide)
    obtain rfl : n = 0 := h6.resolve_left (by decide)
    obtain rfl : keep = [] := h7.resolve_left (by decide)
    unfold stepK argsB
    simp only [show ¬ (2 : Nat) = 1 by decide, show ¬ (2 : Nat) = 4 by decide, show ¬ (2 : Nat) = 6 by decide, if_false, or_false, if_true, true_or]
    rw [show quoteB (bl nm) = quoteB (bl nm) ++ [] by simp, text_quote]
    simp [blB_bl]
  · obtain rfl : to_ = ⟨#[]⟩ := h4.resolve_left (by decide)
    obtain rfl : tx = ⟨#[]⟩ := h5.resolve_left (by decide)
    obtain rfl : n = 0 := h6.resolve_left (by decide)
    obtain rfl : keep = [] := h7.resolve_left (by decide)
    unfold stepK argsB
    simp only [show ¬ (3 : Nat) = 1 by decide, show ¬ (3 : Nat) = 4 by decide, show ¬ (3 : Nat) = 6 by decide, show ¬ (3 : Nat) = 2 by decide, if_false, or_false, if_true, or_true]
    rw [show quoteB (bl nm) = quoteB (bl nm) ++ [] by simp, text_quote]
    simp [blB_bl]
  · obtain rfl : tx = ⟨#[]⟩ := h5.resolve_left (by decide)
    obtain rfl : n = 0 := h6.resolve_left (by decide)
    obtain rfl : keep = [] := h7.resolve_left (by decide)
    unfold stepK argsB
    simp only [show ¬ (4 : Nat) = 1 by decide, show ¬ (4 : Nat) = 2 by decide, show ¬ (4 : Nat) = 3 by decide, if_false, or_false, true_or, if_true, text_quote]
    rw [show quoteB (bl to_) = quoteB (bl to_) ++ [] by simp, text_quote]
    simp [blB_bl]
  · obtain rfl : nm = ⟨#[]⟩ := h3.resolve_left (by decide)
    obtain rfl : to_ = ⟨#[]⟩ := h4.resolve_left (by decide)
    obtain rfl : tx = ⟨#[]⟩ := h5.resolve_left (by decide)
    obtain rfl : n = 0 := h6.resolve_left (by decide)
    obtain rfl : keep = [] := h7.resolve_left (by decide)
    rfl
  · obtain rfl : tx = ⟨#[]⟩ := h5.resolve_left (by decide)
    obtain rfl : n = 0 := h6.resolve_left (by decide)
    obtain rfl : keep = [] := h7.resolve_left (by decide)
    unfold stepK argsB
    simp only [show ¬ (6 : Nat) = 1 by decide, show ¬ (6 : Nat) = 2 by decide, show ¬ (6 : Nat) = 3 by decide, if_false, or_false, or_true, if_true, text_quote]
    rw [show quoteB (bl to_) = quoteB (bl to_) ++ [] by simp, text_quote]
    simp [blB_bl]
  · obtain rfl : nm = ⟨#[]⟩ := h3.resolve_left (by decide)
    obtain rfl : to_ = ⟨#[]⟩ := h4.resolve_left (by decide)
    obtain rfl : tx = ⟨#[]⟩ := h5.resolve_left (by decide)
    obtain rfl : n = 0 := h6.resolve_left (by decide)
    obtain rfl : keep = [] := h7.resolve_left (by decide)
    rfl
  · obtain rfl : nm = ⟨#[]⟩ := h3.resolve_left (by decide)
    obtain rfl : to_ = ⟨#[]⟩ := h4.resolve_left (by decide)
    obtain rfl : tx = ⟨#[]⟩ := h5.resolve_left (by decide)
    obtain rfl : keep = [] := h7.resolve_left (by decide)
    unfold stepK argsB rdNum
    simp [space_cons, num_itoa n hf]
  · obtain rfl : nm = ⟨#[]⟩ := h3.resolve_left (by decide)
    obtain rfl : to_ = ⟨#[]⟩ := h4.resolve_left (by decide)
    obtain rfl : tx = ⟨#[]⟩ := h5.resolve_left (by decide)
    obtain rfl : keep = [] := h7.resolve_left (by decide)
    unfold stepK argsB rdNum
    simp [space_cons, num_itoa n hf]
  · obtain rfl : nm = ⟨#[]⟩ := h3.resolve_left (by decide)
    obtain rfl : to_ = ⟨#[]⟩ := h4.resolve_left (by decide)
    obtain rfl : tx = ⟨#[]⟩ := h5.resolve_left (by decide)
    obtain rfl : n = 0 := h6.resolve_left (by decide)
    by_cases hk : keep = []
    · subst hk; rfl
    · unfold stepK argsB
      simp [hk, keep_kept keep hk]
end Go.Proofs.YtahnnebpadbopaaGreatDoor
/- A step that is read is right, and its line is what was read; the document's guess; whole scripts. No program in sight. -/
namespace Go.Proofs.YtahnnebpadbopaaGreatDoor
open Go.RowKit Go.Lib

theorem stepK_some {k : Nat} {r : List UInt8} {s : Stp} (h : stepK k r = some s) : rightS s = true ∧ fitsN s.n = true ∧ s.kind = k ∧ argsB s = r := by
  have f0 : fitsN 0 = true := by decide
  unfold stepK at h
  dsimp only at h
  split at h
  · rename_i hk
    split at h
    · rename_i hb
      cases h
      obtain ⟨a1, a2⟩ := text_true (r := (rdText (r, true)).2.1) (b := (rdText (r, true)).2.2) (t := (rdText (rdText (r, true)).2).1) (q := []) (by rw [← hb])
      obtain ⟨_, b2⟩ := text_true (r := r) (b := true) (t := (rdText (r, true)).1) (q := (rdText (r, true)).2.1) (Prod.ext rfl (Prod.ext rfl a1))
      refine ⟨rfl, f0, hk.symm, ?_⟩
      unfold argsB
      rw [if_pos rfl]
      dsimp only
      rw [bl_blB, bl_blB]
      conv => rhs; rw [b2, a2]
      simp
    · cases h
  · split at h
    · rename_i h1 hk
      split at h
      · rename_i hb
        cases h
        obtain ⟨a1, a2⟩ := text_true (r := (rdText (r, true)).2.1) (b := (rdText (r, true)).2.2) (t := (rdText (rdText (r, true)).2).1) (q := []) (by rw [← hb])
        obtain ⟨_, b2⟩ := text_true (r := r) (b := true) (t := (rdText (r, true)).1) (q := (rdText (r, true)).2.1) (Prod.ext rfl (Prod.ext rfl a1))
        have e : argsB (⟨k, blB (rdText (r, true)).1, blB (rdText (rdText (r, true)).2).1, ⟨#[]⟩, 0, []⟩ : Stp) = r := by
          unfold argsB
          dsimp only
          rw [if_neg h1, if_neg (by omega), if_pos hk, bl_blB, bl_blB]
          conv => rhs; rw [b2, a2]
          simp
        refine ⟨?_, f0, rfl, e⟩
        rcases hk with rfl | rfl <;> rfl
      · cases h
    · split at h
      · rename_i h1 h2 hk
        split at h
        · rename_i hb
          cases h
          obtain ⟨_, b2⟩ := text_true (r := r) (b := true) (t := (rdText (r, true)).1) (q := []) (by rw [← hb])
          have e : argsB (⟨k, blB (rdText (r, true)).1, ⟨#[]⟩, ⟨#[]⟩, 0, []⟩ : Stp) = r := by
            unfold argsB
            dsimp only
            rw [if_neg h1, if_pos hk, bl_blB]
            conv => rhs; rw [b2]
            simp
          refine ⟨?_, f0, rfl, e⟩
          rcases hk with rfl | rfl <;> rfl
        · cases h
      · split at h
        · rename_i h1 h2 h3 hk
          split at h
          · rename_i hb
            cases h
            unfold rdNum at hb ⊢
            simp only [Bool.and_eq_true] at hb ⊢
            obtain ⟨hb1, hb2⟩ := hb
            obtain ⟨v, hv⟩ := Option.isSome_iff_exists.1 hb2
            obtain ⟨_, b2⟩ := space_true (r := r) (b := true) (q := (rdSpace (r, true)).1) (Prod.ext rfl hb1)
            obtain ⟨n1, n2⟩ := num_some hv
            rw [hv]
            dsimp only [Option.getD_some]
            refine ⟨?_, n1, trivial, ?_⟩
            · rcases hk with rfl | rfl <;> rfl
            · unfold argsB
              dsimp only
              rw [if_neg h1, if_neg h3, if_neg h2, if_pos hk, n2]
              exact b2.symm
          · cases h
        · split at h
          · rename_i h1 h2 h3 h4 hk
            split at h
            · rename_i hb
              cases h
              refine ⟨rfl, f0, hk.symm, ?_⟩
              rcases keep_true (r := r) (l := (rdKeep (r, true)).1) (Prod.ext rfl hb) with ⟨e1, e2⟩ | ⟨e1, e2⟩
              · unfold argsB
                simp only [show ¬ (10 : Nat) = 1 by decide, show ¬ (10 : Nat) = 2 by decide, show ¬ (10 : Nat) = 3 by decide, show ¬ (10 : Nat) = 4 by decide, show ¬ (10 : Nat) = 6 by decide, show ¬ (10 : Nat) = 8 by decide, show ¬ (10 : Nat) = 9 by decide, or_false, if_false]
                rw [if_neg (fun h => h.2 e2), e1]
              · unfold argsB
                simp only [show ¬ (10 : Nat) = 1 by decide, show ¬ (10 : Nat) = 2 by decide, show ¬ (10 : Nat) = 3 by decide, show ¬ (10 : Nat) = 4 by decide, show ¬ (10 : Nat) = 6 by decide, show ¬ (10 : Nat) = 8 by decide, show ¬ (10 : Nat) = 9 by decide, or_false, if_false]
                rw [if_pos ⟨trivial, e1⟩]
                exact e2.symm
            · cases h
          · split at h
            · rename_i h1 h2 h3 h4 h5 hk
              split at h
              · rename_i hr
                cases h
                subst hr
                rcases hk with rfl | rfl
                · exact ⟨rfl, f0, rfl, rfl⟩
                · exact ⟨rfl, f0, rfl, rfl⟩
              · cases h
            · cases h
theorem step_some {t : List UInt8} {s : Stp} (h : stepB t = some s) : rightS s = true ∧ fitsN s.n = true ∧ lineB s = t := by
  unfold stepB at h
  obtain ⟨h1, h2, h3, h4⟩ := stepK_some h
  refine ⟨h1, h2, ?_⟩
  unfold lineB
  rw [h4, h3]
  by_cases hk : kindB (t.take (spaceI t)) = 0
  · rw [hk] at h; cases h
  · rw [(kind_some rfl hk).2.2, List.take_append_drop]
/-! ### The document's guess -/
theorem beg_hit (p r : List UInt8) : begB (p ++ r) p = some r := by
  unfold begB
  rw [List.take_append_of_le_length (Nat.le_refl _), List.take_length, if_pos rfl, List.drop_append_of_le_length (Nat.le_refl _), List.drop_length]; rfl
theorem texts_one (a : List UInt8) : (textsB (quoteB a)).1 = a := by
  unfold textsB
  rw [show quoteB a = quoteB a ++ [] by simp, runquote_quote]
  rfl
theorem texts_two (a b : List UInt8) : textsB (quoteB a ++ 32 :: quoteB b) = (a, b) := by
  unfold textsB
  rw [runquote_quote]
  simp only [Option.getD_some]
  rw [show (32 :: quoteB b) = [32] ++ quoteB b from rfl, beg_hit]
  simp only
  rw [show quoteB b = quoteB b ++ [] by simp, runquote_quote]
  rfl
theorem beg_no {p r : List UInt8} (h : (r.take p.length == p) = false) : begB r p = none := by
  unfold begB
  rw [if_neg (by simpa using h)]
theorem guess_line {s : Stp} (hr : rightS s = true) (hf : fitsN s.n = true) : guessB (lineB s) = s := by
  obtain ⟨h1, h2, h3, h4, h5, h6, h7⟩ := right_parts hr
  obtain ⟨k, nm, to_, tx, n, keep⟩ := s
  dsimp only at *
  have hk : k = 1 ∨ k = 2 ∨ k = 3 ∨ k = 4 ∨ k = 5 ∨ k = 6 ∨ k = 7 ∨ k = 8 ∨ k = 9 ∨ k = 10 := by omega
  rcases hk with rfl | rfl | rfl | rfl | rfl | rfl | rfl | rfl | rfl | rfl
  · obtain rfl : to_ = ⟨#[]⟩ := h4.resolve_left (by decide)
    obtain rfl : n = 0 := h6.resolve_left (by decide)
    obtain rfl : keep = [] := h7.resolve_left (by decide)
    show guessB ([112, 117, 116, 32] ++ (quoteB (bl nm) ++ 32 :: quoteB (bl tx))) = _
    unfold guessB
    rw [beg_hit]
    simp only
    rw [texts_two]
    rfl
  · obtain rfl : to_ = ⟨#[]⟩ := h4.resolve_left (by decide)
    obtain rfl : tx = ⟨#[]⟩ := h5.resolve_left (by decide)
    obtain rfl : n = 0 := h6.resolve_left (by decide)
    obtain rfl : keep = [] := h7.resolve_left (by decide)
    show guessB ([103, 101, 116, 32] ++ quoteB (bl nm)) = _
    unfold guessB
    rw [beg_no (p := [112, 117, 116, 32]) (by simp)]
    rw [beg_hit]
    simp only
    rw [texts_one]
    rfl
  · obtain rfl : to_ = ⟨#[]⟩ := h4.resolve_left (by decide)
    obtain rfl : tx = ⟨#[]⟩ := h5.resolve_left (by decide)
    obtain rfl : n = 0 := h6.resolve_left (by decide)
    obtain rfl : keep = [] := h7.resolve_left (by decide)
    show guessB ([102, 114, 101, 101, 32] ++ quoteB (bl nm)) = _
    unfold guessB
    rw [beg_no (p := [112, 117, 116, 32]) (by simp)]
    rw [beg_no (p := [103, 101, 116, 32]) (by simp)]
    rw [beg_hit]
    simp only
    rw [texts_one]
    rfl
  · obtain rfl : tx = ⟨#[]⟩ := h5.resolve_left (by decide)
    obtain rfl : n = 0 := h6.resolve_left (by decide)
    obtain rfl : keep = [] := h7.resolve_left (by decide)
    show guessB ([112, 114, 101, 115, 115, 32] ++ (quoteB (bl nm) ++ 32 :: quoteB (bl to_))) = _
    unfold guessB
    rw [beg_no (p := [112, 117, 116, 32]) (by simp)]
    rw [beg_no (p := [103, 101, 116, 32]) (by simp)]
    rw [beg_no (p := [102, 114, 101, 101, 32]) (by simp)]
    rw [beg_hit]
    simp only
    rw [texts_two]
    rfl
  · obtain rfl : nm = ⟨#[]⟩ := h3.resolve_left (by decide)
    obtain rfl : to_ = ⟨#[]⟩ := h4.resolve_left (by decide)
    obtain rfl : tx = ⟨#[]⟩ := h5.resolve_left (by decide)
    obtain rfl : n = 0 := h6.resolve_left (by decide)
    obtain rfl : keep = [] := h7.resolve_left (by decide)
    rfl
  · obtain rfl : tx = ⟨#[]⟩ := h5.resolve_left (by decide)
    obtain rfl : n = 0 := h6.resolve_left (by decide)
    obtain rfl : keep = [] := h7.resolve_left (by decide)
    show guessB ([98, 97, 99, 107, 32] ++ (quoteB (bl nm) ++ 32 :: quoteB (bl to_))) = _
    unfold guessB
    rw [beg_no (p := [112, 117, 116, 32]) (by simp)]
    rw [beg_no (p := [103, 101, 116, 32]) (by simp)]
    rw [beg_no (p := [102, 114, 101, 101, 32]) (by simp)]
    rw [beg_no (p := [112, 114, 101, 115, 115, 32]) (by simp)]
    rw [beg_hit]
    simp only
    rw [texts_two]
    rfl
  · obtain rfl : nm = ⟨#[]⟩ := h3.resolve_left (by decide)
    obtain rfl : to_ = ⟨#[]⟩ := h4.resolve_left (by decide)
    obtain rfl : tx = ⟨#[]⟩ := h5.resolve_left (by decide)
    obtain rfl : n = 0 := h6.resolve_left (by decide)
    obtain rfl : keep = [] := h7.resolve_left (by decide)
    rfl
  · obtain rfl : nm = ⟨#[]⟩ := h3.resolve_left (by decide)
    obtain rfl : to_ = ⟨#[]⟩ := h4.resolve_left (by decide)
    obtain rfl : tx = ⟨#[]⟩ := h5.resolve_left (by decide)
    obtain rfl : keep = [] := h7.resolve_left (by decide)
    show guessB ([98, 117, 100, 103, 101, 116, 32] ++ Lib.itoa n) = _
    unfold guessB
    rw [beg_no (p := [112, 117, 116, 32]) (by simp)]
    rw [beg_no (p := [103, 101, 116, 32]) (by simp)]
    rw [beg_no (p := [102, 114, 101, 101, 32]) (by simp)]
    rw [beg_no (p := [112, 114, 101, 115, 115, 32]) (by simp)]
    rw [beg_no (p := [98, 97, 99, 107, 32]) (by simp)]
    rw [beg_hit]
    simp only
    rw [number_itoa n hf]
  · obtain rfl : nm = ⟨#[]⟩ := h3.resolve_left (by decide)
    obtain rfl : to_ = ⟨#[]⟩ := h4.resolve_left (by decide)
    obtain rfl : tx = ⟨#[]⟩ := h5.resolve_left (by decide)
    obtain rfl : keep = [] := h7.resolve_left (by decide)
    show guessB ([102, 117, 115, 101, 32] ++ Lib.itoa n) = _
    unfold guessB
    rw [beg_no (p := [112, 117, 116, 32]) (by simp)]
    rw [beg_no (p := [103, 101, 116, 32]) (by simp)]
    rw [beg_no (p := [102, 114, 101, 101, 32]) (by simp)]
    rw [beg_no (p := [112, 114, 101, 115, 115, 32]) (by simp)]
    rw [beg_no (p := [98, 97, 99, 107, 32]) (by simp)]
    rw [beg_no (p := [98, 117, 100, 103, 101, 116, 32]) (by simp)]
    rw [beg_hit]
    simp only
    rw [number_itoa n hf]
  · obtain rfl : nm = ⟨#[]⟩ := h3.resolve_left (by decide)
    obtain rfl : to_ = ⟨#[]⟩ := h4.resolve_left (by decide)
    obtain rfl : tx = ⟨#[]⟩ := h5.resolve_left (by decide)
    obtain rfl : n = 0 := h6.resolve_left (by decide)
    by_cases hk : keep = []
    · subst hk; rfl
    · have hl : lineB (⟨10, ⟨#[]⟩, ⟨#[]⟩, ⟨#[]⟩, 0, keep⟩ : Stp) = [99, 114, 97, 115, 104, 32] ++ keptB keep := by unfold lineB argsB; simp [hk, verbB]
      rw [hl]
      unfold guessB
      rw [beg_no (p := [112, 117, 116, 32]) (by simp)]
      rw [beg_no (p := [103, 101, 116, 32]) (by simp)]
      rw [beg_no (p := [102, 114, 101, 101, 32]) (by simp)]
      rw [beg_no (p := [112, 114, 101, 115, 115, 32]) (by simp)]
      rw [beg_no (p := [98, 97, 99, 107, 32]) (by simp)]
      rw [beg_no (p := [98, 117, 100, 103, 101, 116, 32]) (by simp)]
      rw [beg_no (p := [102, 117, 115, 101, 32]) (by simp)]
      simp only
      rw [if_neg (by simp), if_neg (by simp), beg_hit]
      simp only
      congr 1
      unfold keptB
      rw [List.map_map]
      conv => rhs; rw [← List.map_id keep]
      refine List.map_congr_left fun c _ => ?_
      cases c <;> rfl
end Go.Proofs.YtahnnebpadbopaaGreatDoor
/- Whole scripts: what is written is parsed, and only so; the document's parsing is the same. No program in sight. -/
namespace Go.Proofs.YtahnnebpadbopaaGreatDoor
open Go.RowKit Go.Lib

theorem index_nl : ∀ (l rest : List UInt8), (∀ c ∈ l, c ≠ 10) → index (l ++ 10 :: rest) [10] = l.length := by
  intro l
  induction l with
  | nil => intro rest _; simp [index]
  | cons b l ih =>
    intro rest h
    have hb : ¬ 10 = b := fun e => h b (List.mem_cons_self ..) e.symm
    rw [List.cons_append, index]
    have : ([10] : List UInt8).isPrefixOf (b :: (l ++ 10 :: rest)) = false := by rw [List.isPrefixOf_cons_cons]; rw [show ((10 : UInt8) == b) = false from by rw [beq_eq_false_iff_ne]; exact hb]; rfl
    rw [this, ih rest (fun c hc => h c (List.mem_cons_of_mem _ hc))]
    have hne : (((l.length : Nat) : Int) == -1) = false := by rw [beq_eq_false_iff_ne]; omega
    rw [hne]
    simp
theorem index_no : ∀ (l : List UInt8), (∀ c ∈ l, c ≠ 10) → index l [10] = -1 := by
  intro l
  induction l with
  | nil => intro _; rfl
  | cons b l ih =>
    intro h
    have hb : ¬ 10 = b := fun e => h b (List.mem_cons_self ..) e.symm
    rw [index]
    have : ([10] : List UInt8).isPrefixOf (b :: l) = false := by rw [List.isPrefixOf_cons_cons]; rw [show ((10 : UInt8) == b) = false from by rw [beq_eq_false_iff_ne]; exact hb]; rfl
    rw [this, ih (fun c hc => h c (List.mem_cons_of_mem _ hc))]
    rfl
theorem cut_nl (l rest : List UInt8) (h : ∀ c ∈ l, c ≠ 10) : cut (l ++ 10 :: rest) [10] = (l, rest, true) := by
  unfold cut
  rw [index_nl l rest h, if_pos (by omega)]
  simp only [Int.toNat_natCast, List.length_cons, List.length_nil]
  rw [List.take_append_of_le_length (Nat.le_refl _), List.take_length]
  rw [show l ++ 10 :: rest = (l ++ [10]) ++ rest by simp, List.drop_append_of_le_length (by simp), List.drop_of_length_le (by simp)]
  rfl
theorem cut_no (l : List UInt8) (h : ∀ c ∈ l, c ≠ 10) : cut l [10] = (l, [], false) := by
  unfold cut
  rw [index_no l h, if_neg (by omega)]
/-- Each text has a first line, or none. -/
theorem nl_split : ∀ (s : List UInt8), (∀ c ∈ s, c ≠ 10) ∨ ∃ l rest, s = l ++ 10 :: rest ∧ ∀ c ∈ l, c ≠ 10 := by
  intro s
  induction s with
  | nil => exact .inl (fun c hc => by cases hc)
  | cons b s ih =>
    by_cases hb : b = 10
    · exact .inr ⟨[], s, by rw [hb]; rfl, fun c hc => by cases hc⟩
    · rcases ih with h | ⟨l, rest, e, h⟩
      · exact .inl (fun c hc => by rcases List.mem_cons.1 hc with rfl | hc; exact hb; exact h c hc)
      · exact .inr ⟨b :: l, rest, by rw [e]; rfl, fun c hc => by rcases List.mem_cons.1 hc with rfl | hc; exact hb; exact h c hc⟩
/-! ### One line -/
theorem parse_nil (f : Nat) (out : List Stp) : parseF (f + 1) [] out = (out, out.length, 0) := by rw [parseF, if_pos rfl]
theorem parse_end (f : Nat) (s : List UInt8) (out : List Stp) (h0 : s ≠ []) (h : ∀ c ∈ s, c ≠ 10) : parseF (f + 1) s out = ([], out.length, 7) := by
  rw [parseF, if_neg h0, cut_no s h]
theorem parse_line (f : Nat) (l rest : List UInt8) (out : List Stp) (h : ∀ c ∈ l, c ≠ 10) : parseF (f + 1) (l ++ 10 :: rest) out = match stepB l with
    | some x => parseF f rest (out ++ [x])
    | none => ([], out.length, 7) := by
  rw [parseF, if_neg (by simp), cut_nl l rest h]
  simp only
  cases stepB l <;> rfl
/-- The steps that are there already, and more fuel, do not matter. -/
theorem parse_shift : ∀ (f g : Nat) (s : List UInt8) (o out : List Stp), s.length < f → s.length < g → parseF f s (o ++ out) = match parseF g s out with
    | (l, n, e) => if e = 0 then (o ++ l, o.length + n, e) else ([], o.length + n, e) := by
  intro f
  induction f with
  | zero => intro g s o out h; omega
  | succ f ih =>
    intro g s o out h hg
    obtain ⟨g, rfl⟩ : ∃ k, g = k + 1 := ⟨g - 1, by omega⟩
    rcases nl_split s with hn | ⟨l, rest, rfl, hl⟩
    · by_cases h0 : s = []
      · subst h0
        rw [parse_nil, parse_nil]
        simp
      · rw [parse_end _ _ _ h0 hn, parse_end _ _ _ h0 hn]
        simp
    · rw [parse_line _ _ _ _ hl, parse_line _ _ _ _ hl]
      cases stepB l with
      | none => simp
      | some x =>
        simp only
        rw [List.append_assoc]
        exact ih g rest o (out ++ [x]) (by simp at h; omega) (by simp at hg; omega)
/-- What a script is. -/
theorem parse_all : ∀ (f : Nat) (s : List UInt8) (out : List Stp), s.length < f → (∃ l, writeB l = some s ∧ parseF f s out = (out ++ l, out.length + l.length, 0)) ∨ (∃ n, parseF f s out = ([], n, 7) ∧ ∀ l, writeB l ≠ some s) := by
  intro f
  induction f with
  | zero => intro s out h; omega
  | succ f ih =>
    intro s out h
    rcases nl_split s with hn | ⟨l, rest, rfl, hl⟩
    · by_cases h0 : s = []
      · subst h0
        exact .inl ⟨[], rfl, by rw [parse_nil]; simp⟩
      · refine .inr ⟨_, parse_end _ _ _ h0 hn, fun l hw => ?_⟩
        cases l with
        | nil => simp [writeB] at hw; exact h0 hw
        | cons x l =>
          rw [writeB] at hw
          split at hw
          · cases hq : writeB l with
            | none => rw [hq] at hw; cases hw
            | some t =>
              rw [hq] at hw
              simp at hw
              exact hn 10 (by rw [← hw]; simp) rfl
          · cases hw
    · rw [parse_line _ _ _ _ hl]
      cases hs : stepB l with
      | none =>
        refine .inr ⟨_, rfl, fun q hw => ?_⟩
        cases q with
        | nil => simp [writeB] at hw
        | cons x q =>
          rw [writeB] at hw
          split at hw
          · rename_i hx
            cases hq : writeB q with
            | none => rw [hq] at hw; cases hw
            | some t =>
              rw [hq] at hw
              simp only [Option.map_some, Option.some.injEq] at hw
              have e1 := cut_nl (lineB x) t (line_free x)
              rw [hw, cut_nl l rest hl] at e1
              simp only [Prod.mk.injEq] at e1
              simp only [Bool.and_eq_true] at hx
              have := step_line hx.1 hx.2
              rw [← e1.1, hs] at this
              cases this
          · cases hw
      | some x =>
        obtain ⟨x1, x2, x3⟩ := step_some hs
        rcases ih rest (out ++ [x]) (by simp at h; omega) with ⟨q, q1, q2⟩ | ⟨n, q1, q2⟩
        · refine .inl ⟨x :: q, ?_, ?_⟩
          · rw [writeB, if_pos (by rw [x1, x2]; rfl), q1, x3]; rfl
          · simp only
            rw [q2]
            simp; omega
        · refine .inr ⟨n, q1, fun q hw => ?_⟩
          cases q with
          | nil => simp [writeB] at hw
          | cons y q =>
            rw [writeB] at hw
            split at hw
            · cases hq : writeB q with
              | none => rw [hq] at hw; cases hw
              | some t =>
                rw [hq] at hw
                simp only [Option.map_some, Option.some.injEq] at hw
                have e1 := cut_nl (lineB y) t (line_free y)
                rw [hw, cut_nl l rest hl] at e1
                simp only [Prod.mk.injEq] at e1
                exact q2 q (by rw [hq, e1.2.1])
            · cases hw
theorem write_inj : ∀ {l m : List Stp} {t : List UInt8}, writeB l = some t → writeB m = some t → l = m := by
  intro l
  induction l with
  | nil =>
    intro m t h1 h2
    cases m with
    | nil => rfl
    | cons y m =>
      simp [writeB] at h1
      subst h1
      rw [writeB] at h2
      split at h2
      · cases hq : writeB m with
        | none => rw [hq] at h2; cases h2
        | some u => rw [hq] at h2; simp at h2
      · cases h2
  | cons x l ih =>
    intro m t h1 h2
    rw [writeB] at h1
    split at h1
    · rename_i hx
      cases hp : writeB l with
      | none => rw [hp] at h1; cases h1
      | some u =>
        rw [hp] at h1
        simp only [Option.map_some, Option.some.injEq] at h1
        cases m with
        | nil => simp [writeB] at h2; subst h2; simp at h1
        | cons y m =>
          rw [writeB] at h2
          split at h2
          · rename_i hy
            cases hq : writeB m with
            | none => rw [hq] at h2; cases h2
            | some v =>
              rw [hq] at h2
              simp only [Option.map_some, Option.some.injEq] at h2
              have e1 := cut_nl (lineB x) u (line_free x)
              rw [h1, ← h2, cut_nl _ _ (line_free y)] at e1
              simp only [Prod.mk.injEq] at e1
              obtain ⟨e1, e2, _⟩ := e1
              simp only [Bool.and_eq_true] at hx hy
              have s1 := step_line hx.1 hx.2
              have s2 := step_line hy.1 hy.2
              rw [← e1, s2] at s1
              cases s1
              rw [ih hp (by rw [hq, e2])]
          · cases h2
    · cases h1
theorem parse_write {l : List Stp} {t : List UInt8} (h : writeB l = some t) : parseB t = (l, l.length, 0) := by
  unfold parseB
  rcases parse_all (t.length + 1) t [] (by omega) with ⟨q, q1, q2⟩ | ⟨n, q1, q2⟩
  · rw [q2, write_inj q1 h]; simp
  · exact absurd h (q2 l)
theorem parse_cases (s : List UInt8) : (∃ l, writeB l = some s ∧ parseB s = (l, l.length, 0)) ∨ ∃ n, parseB s = ([], n, 7) := by
  unfold parseB
  rcases parse_all (s.length + 1) s [] (by omega) with ⟨q, q1, q2⟩ | ⟨n, q1, q2⟩
  · exact .inl ⟨q, q1, by rw [q2]; simp⟩
  · exact .inr ⟨n, q1⟩
theorem parse_more {x : Stp} (hr : rightS x = true) (hf : fitsN x.n = true) (s : List UInt8) : parseB (lineB x ++ 10 :: s) = match parseB s with
    | (l, n, e) => if e = 0 then (x :: l, n + 1, e) else ([], n + 1, e) := by
  have h1 : parseB (lineB x ++ 10 :: s) = parseF (lineB x ++ 10 :: s).length s ([x] ++ []) := by
    unfold parseB
    rw [parse_line _ _ _ _ (line_free x), step_line hr hf]; rfl
  rw [h1, parse_shift _ (s.length + 1) s [x] [] (by simp; omega) (by omega)]
  unfold parseB
  obtain ⟨l, n, e⟩ := parseF (s.length + 1) s []
  simp only
  split <;> simp [Nat.add_comm]
/-! ### The document's -/
theorem rparse_at (s : List UInt8) : ∀ (f i from_ : Nat) (out : List Stp), s.length - i < f → from_ ≤ i → i ≤ s.length → (∀ c ∈ (s.take i).drop from_, c ≠ 10) → rparseF s f i from_ out = parseF (s.length - from_ + 1) (s.drop from_) out := by
  intro f
  induction f with
  | zero => intro i from_ out h; omega
  | succ f ih =>
    intro i from_ out hf h1 h2 h3
    rw [rparseF]
    by_cases hi : i < s.length
    · have hg : s[i]? = some s[i] := List.getElem?_eq_getElem hi
      have hsp : s.drop from_ = (s.take i).drop from_ ++ s[i] :: s.drop (i + 1) := by
        conv => lhs; rw [← List.take_append_drop i s]
        rw [List.drop_append_of_le_length (by rw [List.length_take]; omega), List.drop_eq_getElem_cons hi]
      rw [hg]
      simp only
      by_cases hc : s[i] = 10
      · rw [if_neg (by simp [hc])]
        rw [hc] at hsp
        obtain ⟨k, hk⟩ : ∃ k, s.length - from_ + 1 = k + 1 := ⟨_, rfl⟩
        rw [hsp, parse_line _ _ _ _ h3]
        have hlen : ((s.take i).drop from_).length = i - from_ := by rw [List.length_drop, List.length_take]; omega
        by_cases hq : rlineB (guessB ((s.take i).drop from_)) = some ((s.take i).drop from_)
        · rw [if_pos hq]
          have hst : stepB ((s.take i).drop from_) = some (guessB ((s.take i).drop from_)) := by
            unfold rlineB at hq
            split at hq
            · rename_i hr
              simp only [Bool.and_eq_true] at hr
              have := step_line hr.1 hr.2
              simp only [Option.some.injEq] at hq
              rw [hq] at this
              exact this
            · cases hq
          rw [hst]
          simp only
          rw [ih (i + 1) (i + 1) _ (by omega) (Nat.le_refl _) (by omega) (by intro c hc2; rw [List.drop_of_length_le (by rw [List.length_take]; omega)] at hc2; cases hc2)]
          have e1 := parse_shift (s.length - (i + 1) + 1) (s.length - from_) (s.drop (i + 1)) (out ++ [guessB ((s.take i).drop from_)]) [] (by rw [List.length_drop]; omega) (by rw [List.length_drop]; omega)
          have e2 := parse_shift (s.length - from_) (s.length - from_) (s.drop (i + 1)) (out ++ [guessB ((s.take i).drop from_)]) [] (by rw [List.length_drop]; omega) (by rw [List.length_drop]; omega)
          rw [List.append_nil] at e1 e2
          rw [e1, e2]
        · rw [if_neg hq]
          cases hst : stepB ((s.take i).drop from_) with
          | none => rfl
          | some x =>
            exfalso
            obtain ⟨x1, x2, x3⟩ := step_some hst
            apply hq
            have := guess_line x1 x2
            rw [x3] at this
            rw [this]
            unfold rlineB
            rw [if_pos (by rw [x1, x2]; rfl), x3]
      · rw [if_pos hc, ih (i + 1) from_ out (by omega) (by omega) (by omega)]
        intro c hc2
        have : (s.take (i + 1)).drop from_ = (s.take i).drop from_ ++ [s[i]] := by
          rw [List.take_add_one, hg, List.drop_append_of_le_length (by rw [List.length_take]; omega)]
          rfl
        rw [this] at hc2
        rcases List.mem_append.1 hc2 with hc2 | hc2
        · exact h3 c hc2
        · simp only [List.mem_singleton] at hc2
          rw [hc2]; exact hc
    · have hg : s[i]? = none := List.getElem?_eq_none (by omega)
      rw [hg]
      simp only
      have hn : ∀ c ∈ s.drop from_, c ≠ 10 := by
        intro c hc
        rw [List.take_of_length_le (by omega)] at h3
        exact h3 c hc
      split
      · rename_i hlt
        rw [parse_end _ _ _ (by intro e; have := congrArg List.length e; rw [List.length_drop] at this; simp at this; omega) hn]
      · rw [List.drop_of_length_le (by omega), parse_nil]
theorem rparse_eq (s : List UInt8) : rparseB s = parseB s := by
  unfold rparseB parseB
  rw [rparse_at s (s.length + 1) 0 0 [] (by omega) (Nat.le_refl _) (Nat.zero_le _) (by simp)]
  simp
end Go.Proofs.YtahnnebpadbopaaGreatDoor
