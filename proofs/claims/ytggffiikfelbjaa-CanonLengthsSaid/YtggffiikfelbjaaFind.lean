/- Walks: (*canon.Book).find, Code; canon.open, Codes, Find. -/
import Derived.Test.YtggffiikfelbjaaOf
namespace Go.Proofs.Ytggffiikfelbjaa
open Go.RowKit

/-- The symbol of a code of a length. -/
def findC (ls : List Int) (code L : Nat) : Option Nat := if fstC ls L ≤ code ∧ code < fstC ls L + cntC ls L then (idxC ls L)[code - fstC ls L]? else none
def findV (ls : List Int) (code L : Nat) : Int := match findC ls code L with
  | some i => (i : Nat)
  | none => -1

theorem idxC_length (ls : List Int) (l : Nat) : (idxC ls l).length = cntC ls l := idxT_length ls l ls.length (Nat.le_refl _)
theorem idxT_get (ls : List Int) (l : Nat) : ∀ (n k i : Nat), n ≤ ls.length → ((idxT ls l n)[k]? = some i ↔ i < n ∧ ls[i]? = some (l : Int) ∧ cntT ls l i = k) := by
  intro n
  induction n with
  | zero => intro k i _; simp [idxT_zero]
  | succ n ih =>
    intro k i hn
    have hx : ls[n]? = some ls[n] := List.getElem?_eq_getElem (by omega)
    rw [idxT_step hx]
    have hl := idxT_length ls l n (by omega)
    have mono : ∀ a b, a ≤ b → cntT ls l a ≤ cntT ls l b := fun a b hab => by
      unfold cntT
      exact List.Sublist.countP_le (List.take_sublist_take_left hab)
    by_cases he : ls[n] = (l : Int)
    · rw [if_pos he]
      by_cases hk : k < cntT ls l n
      · rw [List.getElem?_append_left (by omega), ih k i (by omega)]
        constructor
        · rintro ⟨a, b, d⟩; exact ⟨by omega, b, d⟩
        · rintro ⟨a, b, d⟩
          refine ⟨?_, b, d⟩
          rcases Nat.lt_or_ge i n with h | h
          · exact h
          · have := mono n i h; omega
      · rw [List.getElem?_append_right (by omega)]
        constructor
        · intro h
          have hk0 : k - (idxT ls l n).length = 0 := by
            rcases Nat.eq_zero_or_pos (k - (idxT ls l n).length) with h0 | h0
            · exact h0
            · rw [List.getElem?_eq_none (by simp; omega)] at h; cases h
          rw [hk0] at h
          simp at h
          subst h
          exact ⟨by omega, by rw [hx, he], by omega⟩
        · rintro ⟨a, b, d⟩
          have hin : i = n := by
            rcases Nat.lt_or_ge i n with h | h
            · have h1 := mono (i + 1) n h
              rw [cntT_step b, if_pos rfl] at h1; omega
            · omega
          subst hin
          rw [show k - (idxT ls l i).length = 0 by omega]; rfl
    · rw [if_neg he, List.append_nil, ih k i (by omega)]
      constructor
      · rintro ⟨a, b, d⟩; exact ⟨by omega, b, d⟩
      · rintro ⟨a, b, d⟩
        refine ⟨?_, b, d⟩
        rcases Nat.lt_or_ge i n with h | h
        · exact h
        · rw [show i = n by omega, hx] at b; simp at b; exact absurd b he
/-- A symbol is found just by its own code. -/
theorem findC_iff (ls : List Int) (code L i : Nat) (h1 : 1 ≤ L) (h15 : L ≤ 15) : findC ls code L = some i ↔ i < ls.length ∧ ls[i]? = some (L : Int) ∧ codeN ls i = code := by
  unfold findC
  constructor
  · intro h
    split at h
    · rename_i hc
      have := (idxT_get ls L ls.length (code - fstC ls L) i (Nat.le_refl _)).1 h
      refine ⟨this.1, this.2.1, ?_⟩
      have hl : lenN ls i = L := by rw [lenN_of this.2.1]; omega
      unfold codeN
      rw [hl, if_pos ⟨h1, h15⟩, this.2.2]; omega
    · cases h
  · rintro ⟨a, b, d⟩
    have hl : lenN ls i = L := by rw [lenN_of b]; omega
    unfold codeN at d
    rw [hl, if_pos ⟨h1, h15⟩] at d
    have hc : cntT ls L i < cntC ls L := by
      have h2 : cntT ls L (i + 1) ≤ cntC ls L := by
        unfold cntC cntT
        exact List.Sublist.countP_le (List.take_sublist_take_left a)
      rw [cntT_step b, if_pos rfl] at h2; omega
    rw [if_pos ⟨by omega, by omega⟩]
    exact (idxT_get ls L ls.length (code - fstC ls L) i (Nat.le_refl _)).2 ⟨a, b, by omega⟩
theorem symC_prefix (ls : List Int) (l k : Nat) : ∃ r, symC ls (l + k) = symC ls l ++ r := by
  induction k with
  | zero => exact ⟨[], by simp⟩
  | succ k ih => obtain ⟨r, hr⟩ := ih; exact ⟨r ++ idxC ls (l + k + 1), by rw [← Nat.add_assoc, symC, hr, List.append_assoc]⟩
theorem symC_at (ls : List Int) {L k i : Nat} (h1 : 1 ≤ L) (h15 : L ≤ 15) (h : (idxC ls L)[k]? = some i) : (symC ls 15)[(symC ls (L - 1)).length + k]? = some i := by
  obtain ⟨r, hr⟩ := symC_prefix ls L (15 - L)
  rw [show L + (15 - L) = 15 by omega] at hr
  have hk : k < (idxC ls L).length := (List.getElem?_eq_some_iff.1 h).1
  obtain ⟨m, rfl⟩ : ∃ m, L = m + 1 := ⟨L - 1, by omega⟩
  rw [show m + 1 - 1 = m by omega, hr, symC, List.append_assoc, List.getElem?_append_right (by omega), Nat.add_sub_cancel_left, List.getElem?_append_left hk, h]
theorem fstC_small {ls : List Int} {l : Nat} (h : ls.length ≤ 512) (hl : l ≤ 16) : fstC ls l ≤ 600000000 := by
  have := nxtC_small h (show l - 1 ≤ 15 by omega)
  unfold fstC; omega

/-- What a book's cells hold. -/
theorem Book.cells {w : World} {B p : Nat} {ls : List Int} {A : Option Addr} {c : Nat} (h : Book w B p ls A c) : ∃ As cs Ac cc,
    w.cell? ⟨p, 32, none⟩ = some (.slice As (symC ls 15).length cs) ∧ w.cell? ⟨p, 33, none⟩ = some (.slice Ac ls.length cc) ∧ w.cell? ⟨p, 34, none⟩ = some (.slice A ls.length c) ∧
    (∀ l, l < 16 → 1 ≤ l → w.cell? ⟨p, l, none⟩ = some (.int .i64 (cntC ls l : Nat)) ∧ w.cell? ⟨p, 16 + l, none⟩ = some (.int .u64 (fstC ls l : Nat))) ∧ w.cell? ⟨p, 0, none⟩ = some (.int .i64 0) ∧
    Rd w B As ((symC ls 15).map fun j => .int .i64 (j : Nat)) ∧ Rd w B Ac ((tab ls.length fun j => (codeN ls j : Nat)).map (.int .u64)) ∧ Rd w B A (ls.map (.int .i64)) ∧ p < B := by
  obtain ⟨As, cs, Ac, cc, hb, hp, h1, h2, h3⟩ := h
  obtain ⟨a, b, d⟩ := bookC_tail (cnt := tab 16 (cntP ls 16 0)) (fst := tab 16 (fstP ls 15)) (v := .slice As (symC ls 15).length cs) (cv := .slice Ac ls.length cc) (lv := .slice A ls.length c) (by simp) (by simp)
  refine ⟨As, cs, Ac, cc, (hb.cell 32).trans a, (hb.cell 33).trans b, (hb.cell 34).trans d, fun l h16 hl => ⟨?_, ?_⟩, ?_, h1, h2, h3, hp⟩
  · have := (hb.cell l).trans (bookC_cnt (by simp) (tab_get _ h16))
    rw [this]; unfold cntP; rw [if_neg (by omega), if_pos h16]
  · have := (hb.cell (16 + l)).trans (bookC_fst (by simp) (tab_get _ h16))
    rw [this]; unfold fstP; rw [if_neg (by omega), if_pos (by omega)]
  · exact (hb.cell 0).trans (bookC_cnt (by simp) (tab_get _ (by omega)))
theorem Book.fr {w w' : World} {B p : Nat} {ls : List Int} {A : Option Addr} {c : Nat} {S : Nat → Prop} (h : Book w B p ls A c) (hf : Fr S w w') (hS : ∀ g, g < B → ¬ S g) : Book w' B p ls A c := by
  obtain ⟨As, cs, Ac, cc, hb, hp, h1, h2, h3⟩ := h
  exact ⟨As, cs, Ac, cc, hb.fr hf (hS p hp), hp, h1.fr hf hS, h2.fr hf hS, h3.fr hf hS⟩
theorem Book.below {w w' : World} {B p : Nat} {ls : List Int} {A : Option Addr} {c : Nat} (h : Book w B p ls A c) (hb : Below B w w') : Book w' B p ls A c := by
  obtain ⟨As, cs, Ac, cc, hk, hp, h1, h2, h3⟩ := h
  exact ⟨As, cs, Ac, cc, hk.below hb hp, hp, h1.below hb, h2.below hb, h3.below hb⟩
theorem Book.drewN {w : World} {B p : Nat} {ls : List Int} {A : Option Addr} {c : Nat} (h : Book w B p ls A c) (n : Nat) : Book (w.drewN n) B p ls A c := h

set_option maxRecDepth 100000 in
set_option maxHeartbeats 400000 in
theorem find_any (B p : Nat) (ls : List Int) (A : Option Addr) (c code L : Nat) (ahead : Int) (w : World) (h : Book w B p ls A c) (hlen : ls.length ≤ 512) (h1 : 1 ≤ L) (h15 : L ≤ 15) (hc : code < 18446744073709551616) (ha : ahead = (symC ls (L - 1)).length) :
    Calls Try.prog 34 #[.pointer (some ⟨p, 0, none⟩), .int .u64 code, .int .i64 L, .int .i64 ahead] w fun e w' => e = .returned (.int .i64 (findV ls code L)) ∧ w' = w := by
  obtain ⟨As, cs, Ac, cc, d32, d33, d34, dl, d0, hs, hco, hls, hp⟩ := h.cells
  obtain ⟨c1, c2⟩ := dl L (by omega) h1
  have hF := fstC_small hlen (show L ≤ 16 by omega)
  have hC := cntT_le ls L ls.length
  have hsl := symC_length_le ls 15
  have hal := symC_length_le ls (L - 1)
  have hal2 := Nat.mul_le_mul (show L - 1 ≤ 15 by omega) hlen
  obtain ⟨F, hFe⟩ : ∃ F, F = fstC ls L := ⟨_, rfl⟩
  obtain ⟨C, hCe⟩ : ∃ C, C = cntC ls L := ⟨_, rfl⟩
  rw [← hCe] at c1
  rw [← hFe] at c2 hF
  have hC : C ≤ 512 := by rw [hCe]; exact Nat.le_trans hC hlen
  obtain ⟨H, rfl⟩ : ∃ H : Nat, ahead = H := ⟨_, ha⟩
  have hHb : H ≤ 8000 := by omega
  have HF := hide hFe
  have HC := hide hCe
  have HA := hide ha
  clear dl d0 d33 d34 hFe hCe ha
  by_cases g1 : code < F
  · have hf : findV ls code L = -1 := by unfold findV findC; rw [if_neg (by have := HF.out; omega)]
    have HV := hide hf
    clear hf
    go_enter Try.func34, Try.ntmps34
    go_wp2
    go_ret
    exact ⟨ret_int HV.out.symm, rfl⟩
  · obtain ⟨K, rfl⟩ : ∃ K, code = F + K := ⟨code - F, by omega⟩
    by_cases g2 : C ≤ K
    · have hf : findV ls (F + K) L = -1 := by unfold findV findC; rw [if_neg (by have := HF.out; have := HC.out; omega)]
      have HV := hide hf
      clear hf
      have hb : decide ((F : Int) + (K : Int) < (F : Int)) = false := decide_eq_false (by omega)
      have hb2 : ((F : Int) + (K : Int) - (F : Int)) = K := by omega
      go_enter Try.func34, Try.ntmps34
      go_wp2
      all_goals
        first
          | (exfalso; omega)
          | (go_ret; exact ⟨ret_int HV.out.symm, rfl⟩)
    · have hK : K < (idxC ls L).length := by rw [idxC_length, ← HC.out]; omega
      obtain ⟨i, hi⟩ : ∃ i, (idxC ls L)[K]? = some i := ⟨_, List.getElem?_eq_getElem hK⟩
      have hf : findV ls (F + K) L = (i : Nat) := by
        unfold findV findC
        rw [if_pos (by have := HF.out; have := HC.out; omega), show F + K - fstC ls L = K by have := HF.out; omega, hi]
      have hsa := symC_at ls h1 h15 hi
      obtain ⟨b, o, hA, hb, hcell⟩ := hs ((symC ls (L - 1)).length + K) (.int .i64 (i : Nat)) (by rw [List.getElem?_map, hsa]; rfl)
      subst hA
      have hHe : (symC ls (L - 1)).length = H := by have := HA.out; omega
      rw [hHe] at hcell hsa
      have hin : H + K < (symC ls 15).length := (List.getElem?_eq_some_iff.1 hsa).1
      have hb2 : ((F : Int) + (K : Int) - (F : Int)) = K := by omega
      obtain ⟨M, hM⟩ : ∃ M, M = (symC ls 15).length := ⟨_, rfl⟩
      rw [← hM] at d32 hin hsl
      have HV := hide hf
      clear hf hs hco hls hi hsa hM hK hal hal2 hHe
      go_enter Try.func34, Try.ntmps34
      go_wp2
      go_ret
      exact ⟨ret_int HV.out.symm, rfl⟩
theorem find_i (B p : Nat) (ls : List Int) (A : Option Addr) (c : Nat) (code L ahead : Int) (w : World) (h : Book w B p ls A c) (hlen : ls.length ≤ 512) (h1 : 1 ≤ L) (h15 : L ≤ 15) (h0 : 0 ≤ code) (hc : code < 18446744073709551616) (ha : ahead = (symC ls (L.toNat - 1)).length) :
    Calls Try.prog 34 #[.pointer (some ⟨p, 0, none⟩), .int .u64 code, .int .i64 L, .int .i64 ahead] w fun e w' => e = .returned (.int .i64 (findV ls code.toNat L.toNat)) ∧ w' = w := by
  obtain ⟨code, rfl⟩ := Int.eq_ofNat_of_zero_le h0
  obtain ⟨L, rfl⟩ := Int.eq_ofNat_of_zero_le (show 0 ≤ L by omega)
  exact find_any B p ls A c code L ahead w h hlen (by omega) (by omega) (by omega) ha

set_option maxRecDepth 100000 in
set_option maxHeartbeats 1000000 in
theorem code_any (B p : Nat) (ls : List Int) (A : Option Addr) (c i : Nat) (x : Int) (w : World) (h : Book w B p ls A c) (hx : ls[i]? = some x) :
    Calls Try.prog 41 #[.pointer (some ⟨p, 0, none⟩), .int .i64 i] w fun e w' => e = .returned (.tuple #[.int .u64 (codeN ls i : Nat), .int .i64 x]) ∧ ∃ n, w' = w.drewN n := by
  obtain ⟨As, cs, Ac, cc, d32, d33, d34, dl, d0, hs, hco, hls, hp⟩ := h.cells
  have hi : i < ls.length := (List.getElem?_eq_some_iff.1 hx).1
  obtain ⟨b1, o1, rfl, hb1, hc1⟩ := hco i (.int .u64 (codeN ls i : Nat)) (by rw [List.getElem?_map, tab_get _ hi]; rfl)
  obtain ⟨b2, o2, rfl, hb2, hc2⟩ := hls i (.int .i64 x) (by rw [List.getElem?_map, hx]; rfl)
  obtain ⟨V, hV⟩ : ∃ V, V = codeN ls i := ⟨_, rfl⟩
  rw [← hV] at hc1
  have HV := hide hV
  clear d0 dl hs hco hls d32 hx hV
  go_enter Try.func41, Try.ntmps41
  go_wp2
  go_quiet (fail)
  go_wp2
  go_ret2
  exact ⟨ret_t2 (v_int (by rw [HV.out])) rfl, _, rfl⟩

/-- What canon.open answers. -/
def OpenP (ls : List Int) (A : Option Addr) (c : Nat) (w : World) (e : Ending) (w' : World) : Prop :=
  if okL ls then ∃ p, e = .returned (.tuple #[.pointer (some ⟨p, 0, none⟩), .int .i64 0]) ∧ Book w' w'.heap.size p ls A c ∧ Below w.heap.size w w'
  else e = .returned (.tuple #[.pointer none, .int .i64 7]) ∧ w' = w
theorem okL_len {ls : List Int} (h : okL ls = true) : ls.length ≤ 512 := by
  unfold okL at h
  simp only [Bool.and_eq_true, decide_eq_true_eq] at h
  have h := h.1
  unfold roomW at h
  rcases Nat.lt_or_ge 512 ls.length with g | g
  · rw [if_pos (by omega)] at h; cases h
  · exact g
set_option maxHeartbeats 1000000 in
theorem open_any (A : Option Addr) (ls : List Int) (c : Nat) (w : World) (h : Rd w w.heap.size A (ls.map (.int .i64))) (hlen : ls.length ≤ 9223372036854775807) :
    Calls Try.prog 33 #[.slice A ls.length c] w (OpenP ls A c w) := by
  have H := hide h
  clear h
  by_cases hok : okL ls = true
  · have hl := okL_len hok
    have hW : okW ls = 0 := by simp [okW, hok]
    have HO := hide hok
    have ck := canonCheck_any A ls c w H.out hlen
    rw [hW] at ck
    have HCk := hide ck
    clear hW hok ck
    go_enter Try.func33, Try.ntmps33
    go_wp2_with (first | (go_at_call 18; refine (Calls.mono HCk.out ?_); rintro e w' ⟨rfl, rfl⟩) | (go_at_call 58; refine (of_any A ls c _ H.out hl).mono ?_; rintro e w' ⟨p, rfl, hbk, hbe⟩))
    go_ret2
    unfold OpenP
    rw [if_pos HO.out]
    exact ⟨p, rfl, hbk, hbe⟩
  · have hok : okL ls = false := by simpa using hok
    have hW : okW ls = 7 := by simp [okW, hok]
    have HO := hide hok
    have ck := canonCheck_any A ls c w H.out hlen
    rw [hW] at ck
    have HCk := hide ck
    clear hW hok ck
    go_enter Try.func33, Try.ntmps33
    go_wp2_with (first | (go_at_call 18; refine (Calls.mono HCk.out ?_); rintro e w' ⟨rfl, rfl⟩))
    go_ret2
    unfold OpenP
    rw [if_neg (by rw [HO.out]; decide)]
    exact ⟨rfl, rfl⟩

/-- The codes, or none. -/
def codesL (ls : List Int) : List Int := if okL ls then tab ls.length (fun j => (codeN ls j : Nat)) else []
def CodesP (ls : List Int) (w : World) (e : Ending) (w' : World) : Prop :=
  ∃ A' c', e = .returned (.tuple #[.slice A' (codesL ls).length c', .int .i64 (okW ls)]) ∧ Rd w' w'.heap.size A' ((codesL ls).map (.int .u64)) ∧ Below w.heap.size w w'
set_option maxHeartbeats 1000000 in
theorem codes_any (A : Option Addr) (ls : List Int) (c : Nat) (w : World) (h : Rd w w.heap.size A (ls.map (.int .i64))) (hlen : ls.length ≤ 9223372036854775807) :
    Calls Try.prog 13 #[.slice A ls.length c] w (CodesP ls w) := by
  have ck := open_any A ls c w h hlen
  unfold OpenP at ck
  clear h
  by_cases hok : okL ls = true
  · simp only [hok, if_true] at ck
    have HCk := hide ck
    have HO := hide hok
    clear ck hok
    go_enter Try.func13, Try.ntmps13
    go_wp2_with (first | (go_at_call 33; refine (Calls.mono HCk.out ?_); rintro e w' ⟨p, rfl, hbk, hbe⟩; obtain ⟨As, cs, Ac, cc, d32, d33, d34, dl, d0, hs, hco, hls, hp⟩ := hbk.cells; have HCo := hide hco; clear hs hls hco dl d0 d32))
    go_ret2
    have e1 : codesL ls = tab ls.length (fun j => (codeN ls j : Nat)) := by simp [codesL, HO.out]
    refine ⟨Ac, cc, ?_, by rw [e1]; exact HCo.out, hbe⟩
    rw [e1, tab_length, okW, HO.out]; rfl
  · have hok : okL ls = false := by simpa using hok
    simp only [hok, Bool.false_eq_true, if_false] at ck
    have HCk := hide ck
    have HO := hide hok
    clear ck hok
    go_enter Try.func13, Try.ntmps13
    go_wp2_with (first | (go_at_call 33; refine (Calls.mono HCk.out ?_); rintro e w' ⟨rfl, rfl⟩))
    go_ret2
    have e1 : codesL ls = [] := by simp [codesL, HO.out]
    refine ⟨none, 0, ?_, by rw [e1]; exact Rd.nil_, Below.refl _ _⟩
    rw [e1, okW, HO.out]; rfl

/-- What canon.Find answers. -/
def findR (ls : List Int) (code length : Int) : Int × Int :=
  if okL ls then if length < 1 ∨ 15 < length then (0, 3) else match findC ls code.toNat length.toNat with
    | some i => ((i : Nat), 0)
    | none => (0, 3)
  else (0, 7)
def FindP (ls : List Int) (code length : Int) (w : World) (e : Ending) (w' : World) : Prop :=
  e = .returned (.tuple #[.int .i64 (findR ls code length).1, .int .i64 (findR ls code length).2]) ∧ Below w.heap.size w w'
theorem FindP.of {ls : List Int} {code length x y : Int} {w w' : World} (h : findR ls code length = (x, y)) (hb : Below w.heap.size w w') : FindP ls code length w (.returned (.tuple #[.int .i64 x, .int .i64 y])) w' := by
  refine ⟨?_, hb⟩; rw [h]

set_option maxRecDepth 100000 in
set_option maxHeartbeats 1000000 in
theorem cfind_any (A : Option Addr) (ls : List Int) (c : Nat) (code length : Int) (w : World) (h : Rd w w.heap.size A (ls.map (.int .i64))) (hlen : ls.length ≤ 9223372036854775807) (hc : U64 code) (hl : I64 length) :
    Calls Try.prog 15 #[.slice A ls.length c, .int .u64 code, .int .i64 length] w (FindP ls code length w) := by
  have ck := open_any A ls c w h hlen
  unfold OpenP at ck
  clear h
  obtain ⟨u1, u2⟩ := hc
  obtain ⟨l1, l2⟩ := hl
  by_cases hok : okL ls = true
  · simp only [hok, if_true] at ck
    have HCk := hide ck
    have HO := hide hok
    have h512 := okL_len hok
    clear ck hok
    by_cases g : length < 1 ∨ 15 < length
    · have hf : findR ls code length = (0, 3) := by unfold findR; rw [if_pos HO.out, if_pos g]
      have HF := hide hf
      clear hf
      go_enter Try.func15, Try.ntmps15
      go_wp2_with (first | (go_at_call 33; refine (Calls.mono HCk.out ?_); rintro e w' ⟨p, rfl, hbk, hbe⟩; have HBk := hide hbk; clear hbk))
      all_goals
        first
          | (exfalso; omega)
          | (go_ret2; exact FindP.of HF.out hbe)
    · obtain ⟨L, rfl⟩ := Int.eq_ofNat_of_zero_le (show 0 ≤ length by omega)
      have g1 : 1 ≤ L := by omega
      have g2 : L ≤ 15 := by omega
      have b1 : decide ((L : Int) < 1) = false := decide_eq_false (by omega)
      have b2 : decide ((15 : Int) < (L : Int)) = false := decide_eq_false (by omega)
      obtain ⟨V, hV⟩ : ∃ V, V = findV ls code.toNat L := ⟨_, rfl⟩
      have HV := hide hV
      clear hV
      have HG := hide g
      clear g
      go_enter Try.func15, Try.ntmps15
      go_wp2_with (first | (go_at_call 33; refine (Calls.mono HCk.out ?_); rintro e w1 ⟨p, rfl, hbk, hbe⟩; have HBk := hide hbk; clear hbk))
      go_loop [10, 28] (fun a i => ∃ k N : Nat, k ≤ L ∧ i = .int .i64 k ∧ a = .int .i64 N ∧ Hid (N = (symC ls (k - 1)).length)) (fun _ i => L - (intOf i).toNat)
      case atStart => exact ⟨0, 0, by omega, rfl, rfl, rfl⟩
      case round =>
        obtain ⟨k, N, hk, rfl, rfl, hN⟩ := hrel
        by_cases hlt : k < L
        · have hNb : N ≤ 8000 := by
            have h1 := symC_length_le ls (k - 1)
            have h2 := Nat.mul_le_mul (show k - 1 ≤ 15 by omega) h512
            have := hN.out; omega
          by_cases h0 : k = 0
          · subst h0
            obtain ⟨As, cs, Ac, cc, d32, d33, d34, dl, d0, hs, hco, hls, hp⟩ := HBk.out.cells
            clear d32 d33 d34 dl hs hco hls
            go_wp2
            go_round
            case rel => exact ⟨1, N, by omega, by go_num, rfl, hN⟩
            case measure => simp [intOf]; omega
          · obtain ⟨As, cs, Ac, cc, d32, d33, d34, dl, d0, hs, hco, hls, hp⟩ := HBk.out.cells
            obtain ⟨c1, c2⟩ := dl k (by omega) (by omega)
            obtain ⟨T, hT⟩ : ∃ T, T = cntC ls k := ⟨_, rfl⟩
            have hTb : T ≤ 512 := by rw [hT]; exact Nat.le_trans (cntT_le _ _ _) h512
            rw [← hT] at c1
            have HT := hide hT
            clear d32 d33 d34 dl hs hco hls hT d0 c2
            go_wp2
            go_round
            case rel => exact ⟨k + 1, N + T, by omega, by go_num, by go_num, hide (by
              obtain ⟨m, rfl⟩ : ∃ m, k = m + 1 := ⟨k - 1, by omega⟩
              rw [show m + 1 + 1 - 1 = m + 1 by omega, symC, List.length_append, idxC_length, hN.out, HT.out]; rfl)⟩
            case measure => simp [intOf]; omega
        · obtain rfl : k = L := by omega
          have fi := find_i w1.heap.size p ls A c code k N w1 HBk.out h512 (by omega) (by omega) u1 (by omega) (by rw [hN.out, Int.toNat_natCast])
          rw [Int.toNat_natCast, ← HV.out] at fi
          by_cases hv : V < 0
          · have hfr : findR ls code k = (0, 3) := by
              have := HV.out
              unfold findR
              rw [if_pos HO.out, if_neg HG.out, Int.toNat_natCast]
              unfold findV at this
              split at this
              · omega
              · rfl
            have HF := hide hfr
            clear hfr
            go_wp2_with (go_at_call 34; refine Calls.mono fi ?_; rintro e w2 ⟨rfl, rfl⟩)
            go_ret2
            exact FindP.of HF.out hbe
          · have hfr : findR ls code k = (V, 0) := by
              have := HV.out
              unfold findR
              rw [if_pos HO.out, if_neg HG.out, Int.toNat_natCast]
              unfold findV at this
              split at this
              · rw [this]
              · omega
            have HF := hide hfr
            clear hfr
            go_wp2_with (go_at_call 34; refine Calls.mono fi ?_; rintro e w2 ⟨rfl, rfl⟩)
            go_ret2
            exact FindP.of HF.out hbe
  · have hok : okL ls = false := by simpa using hok
    simp only [hok, Bool.false_eq_true, if_false] at ck
    have HCk := hide ck
    have hf : findR ls code length = (0, 7) := by unfold findR; rw [if_neg (by rw [hok]; decide)]
    have HF := hide hf
    clear ck hok hf
    go_enter Try.func15, Try.ntmps15
    go_wp2_with (first | (go_at_call 33; refine (Calls.mono HCk.out ?_); rintro e w' ⟨rfl, rfl⟩))
    go_ret2
    exact FindP.of HF.out (Below.refl _ _)
end Go.Proofs.Ytggffiikfelbjaa
