/- Plain: what was written as lengths is read; what is read has its bits; what ends too soon is none's. -/
import Derived.Test.YtggffiikfelbjaaDoorTabJ
namespace Go.Proofs.YtggffiikfelbjaaDoor
open Go.RowKit

theorem toNat_ofNat {ls : List Int} (h : ∀ x ∈ ls, 0 ≤ x) : (ls.map Int.toNat).map Int.ofNat = ls := by
  rw [List.map_map]
  conv => rhs; rw [← List.map_id ls]
  apply List.map_congr_left
  intro x hx
  have := h x hx
  show ((x.toNat : Nat) : Int) = x
  omega
/-- The next bits' number, out of the list of bits. -/
theorem getN_of {s : ByteArray} {N a k v : Nat} {r : List Bool} (h : (bitsL s N).drop a = natBits v k ++ r) (hk : 0 < k) (hv : v < 2 ^ k) : a + k ≤ N ∧ getN s a k = v ∧ (bitsL s N).drop (a + k) = r := by
  have hl : a + k ≤ N := by
    have := congrArg List.length h
    simp at this; omega
  refine ⟨hl, ?_, ?_⟩
  · apply natBits_inj (getN_lt s a k) hv
    rw [natBits_getN, ← bits_seg s hl, h, List.take_left' (by simp)]
  · rw [← List.drop_drop, h, List.drop_left' (by simp)]
theorem tabL_head {ls : List Int} : tabBits ls = natBits ((ls.map Int.toNat).headD 0) 4 ++ tabT ((ls.map Int.toNat).headD 0) (ls.map Int.toNat) := rfl
theorem head_le {ls : List Int} (h : ∀ x ∈ ls, 0 ≤ x ∧ x ≤ 15) : (ls.map Int.toNat).headD 0 ≤ 15 := by
  cases ls with
  | nil => simp
  | cons x l => have := h x (by simp); simp; omega
theorem nat_le {ls : List Int} (h : ∀ x ∈ ls, 0 ≤ x ∧ x ≤ 15) : ∀ x ∈ ls.map Int.toNat, x ≤ 15 := fun x hx => by
  obtain ⟨y, hy, rfl⟩ := List.mem_map.1 hx
  have := h y hy; omega
theorem head_eq {l : List Nat} : ∀ x, l.head? = some x → x = l.headD 0 := by
  intro x h
  cases l with
  | nil => simp at h
  | cons y l => simp at h; simp [h]

/-- What was written is read. -/
theorem read_written {ls : List Int} (h0 : tabW ls = 0) {s : ByteArray} {N n : Nat} {l : List Bool} (hl : l.length = n) (hb : bitsL s N = l ++ tabBits ls) : readT s N n ls.length = (0, ls.map Int.toNat, []) := by
  obtain ⟨hok, hne⟩ := tabW_zero h0
  obtain ⟨h512, hr⟩ := okL_nat hok
  have hd : (bitsL s N).drop n = natBits ((ls.map Int.toNat).headD 0) 4 ++ tabT ((ls.map Int.toNat).headD 0) (ls.map Int.toNat) := by
    rw [hb, List.drop_left' hl]; rfl
  have h15 := head_le hr
  obtain ⟨h1, h2, h3⟩ := getN_of hd (by decide) (by omega)
  have e := lensT_tab (ls.map Int.toNat) true ((ls.map Int.toNat).headD 0) [] (nat_le hr) h15 (fun _ => head_eq)
  rw [List.append_nil, List.length_map] at e
  unfold readT
  rw [if_neg (by omega), h2, h3, e, if_pos rfl, toNat_ofNat (fun x hx => (hr x hx).1), if_pos hok]
/-- What is read has its bits. -/
theorem read_bits {s : ByteArray} {N a n : Nat} {out : List Nat} {r : List Bool} (hn : 1 ≤ n) (h : readT s N a n = (0, out, r)) : tabW (out.map Int.ofNat) = 0 ∧ out.length = n ∧ (bitsL s N).drop a = tabBits (out.map Int.ofNat) ++ r := by
  unfold readT at h
  split at h
  · cases h
  · rename_i g4
    split at h
    · rename_i g0
      split at h
      · rename_i gok
        rw [h] at gok
        have hb := lensT_bits n true _ (getN s a 4) out r (by have := getN_lt s a 4; omega) h
        obtain ⟨b1, b2, b3, b4⟩ := hb
        have hne : out.length ≠ 0 := by omega
        refine ⟨?_, b1, ?_⟩
        · unfold tabW okW
          rw [if_neg (by simpa using hne), if_pos gok]
        · have hm : (out.map Int.ofNat).map Int.toNat = out := by
            rw [List.map_map]
            conv => rhs; rw [← List.map_id out]
            exact List.map_congr_left fun x _ => by show (Int.ofNat x).toNat = x; simp
          have hh : out.headD 0 = getN s a 4 := by
            cases out with
            | nil => simp at hne
            | cons x l => simp; exact b3 rfl x (by simp)
          unfold tabBits tableL
          rw [hm, hh, List.append_assoc, ← b4, natBits_getN, ← bits_seg s (n := N) (by omega), ← List.drop_drop, List.take_append_drop]
      · cases h
    · rename_i g0
      rw [h] at g0
      exact absurd rfl g0
/-- What ends too soon. -/
theorem read_cut {ls : List Int} (h0 : tabW ls = 0) {s : ByteArray} {N n : Nat} (hb : bitsL s N = (tabBits ls).take n) (hn : n < (tabBits ls).length) : (readT s N 0 ls.length).1 = 5 := by
  obtain ⟨hok, hne⟩ := tabW_zero h0
  obtain ⟨h512, hr⟩ := okL_nat hok
  have h15 := head_le hr
  have hN : N = n := by
    have := congrArg List.length hb
    simp at this; omega
  unfold readT
  by_cases g4 : N < 0 + 4
  · rw [if_pos g4]
  · rw [if_neg g4]
    have hd : (bitsL s N).drop 0 = natBits ((ls.map Int.toNat).headD 0) 4 ++ (tabT ((ls.map Int.toNat).headD 0) (ls.map Int.toNat)).take (n - 4) := by
      rw [List.drop_zero, hb, tabL_head, List.take_append, natBits_length, List.take_of_length_le (by simp; omega)]
    obtain ⟨h1, h2, h3⟩ := getN_of hd (by decide) (by omega)
    have hlen : (tabBits ls).length = 4 + (tabT ((ls.map Int.toNat).headD 0) (ls.map Int.toNat)).length := by rw [tabL_head]; simp
    have e := lensT_cut (ls.map Int.toNat) true ((ls.map Int.toNat).headD 0) ((tabT ((ls.map Int.toNat).headD 0) (ls.map Int.toNat)).take (n - 4)) ((tabT ((ls.map Int.toNat).headD 0) (ls.map Int.toNat)).drop (n - 4)) (nat_le hr) h15 (fun _ => head_eq) (List.take_append_drop _ _)
      (fun e => by have := List.drop_eq_nil_iff.1 e; omega)
    rw [List.length_map] at e
    rw [h2, h3, if_neg (by rw [e]; decide), e]
#print axioms read_cut
end Go.Proofs.YtggffiikfelbjaaDoor
