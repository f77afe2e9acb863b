/- Walks: table.Size, Add. -/
import Derived.Test.YtggffiikfelbjaaDoorTabA
namespace Go.Proofs.YtggffiikfelbjaaDoor
open Go.RowKit

/-- What Size answers. -/
def TSizeP (ls : List Int) (w : World) (e : Ending) (w' : World) : Prop := e = .returned (.tuple #[.int .i64 (if tabW ls = 0 then ((tabBits ls).length : Nat) else 0), .int .i64 (tabW ls)]) ∧ ∃ j, w' = w.drewN j
theorem dropN {ls : List Int} {k : Nat} {x : Int} (h : ls[k]? = some x) : (ls.map Int.toNat).drop k = x.toNat :: (ls.map Int.toNat).drop (k + 1) := by
  rw [← List.map_drop, ← List.map_drop]
  have hk := (List.getElem?_eq_some_iff.1 h)
  obtain ⟨hk, rfl⟩ := hk
  rw [List.drop_eq_getElem_cons hk]; rfl

set_option maxRecDepth 100000 in
set_option maxHeartbeats 2000000 in
theorem tsize_any (A : Option Addr) (ls : List Int) (c : Nat) (w : World) (h : Rd w w.heap.size A (ls.map (.int .i64))) (hlen : ls.length ≤ 9223372036854775807) :
    Calls Tryd.prog 8 #[.slice A ls.length c] w (TSizeP ls w) := by
  have ck := tcheck_any A ls c w h hlen
  have H := hide h
  clear h
  by_cases h0 : tabW ls = 0
  · obtain ⟨hok, hne⟩ := tabW_zero h0
    rw [h0] at ck
    have HCk := hide ck
    have HW := hide h0
    obtain ⟨h512, hr⟩ := okL_nat hok
    have HRg := hide hr
    have hT := tabBits_length_le hok
    obtain ⟨T, hTe⟩ : ∃ T, T = (tabBits ls).length := ⟨_, rfl⟩
    rw [← hTe] at hT
    obtain ⟨b0, o0, x0, hA, hb0, hx0, hc0⟩ := H.out.int (show 0 < ls.length by omega)
    subst hA
    obtain ⟨u0, u1⟩ := hr x0 (List.mem_of_getElem? hx0)
    obtain ⟨x0, rfl⟩ := Int.eq_ofNat_of_zero_le u0
    have hd0 : T = 4 + (tabT x0 (ls.map Int.toNat)).length := by
      rw [hTe]
      have := dropN hx0
      rw [List.drop_zero] at this
      have e : (ls.map Int.toNat).headD 0 = x0 := by rw [this]; rfl
      unfold tabBits tableL
      rw [e, List.length_append, natBits_length]
    have HD := hide hd0
    have HT := hide hTe
    have hc0' : w.cell? ⟨b0, o0, none⟩ = some (.int .i64 x0) := hc0
    clear ck h0 hok hr hTe hd0 hx0 hc0
    go_enter Tryd.func8, Tryd.ntmps8
    go_wp2_with (go_at_call 18; refine (Calls.mono HCk.out ?_); rintro e w' ⟨rfl, hww⟩; replace hww := hww.symm; subst hww)
    go_region
    go_wp2_with fail
    go_loopw [5, 6, 19] (fun n nw i wr => ∃ k N M : Nat, k ≤ ls.length ∧ i = .int .i64 k ∧ n = .int .i64 N ∧ nw = .int .i64 M ∧ M ≤ 15 ∧ N ≤ 20000 ∧ wr = w.drewN 1 ∧ Hid (N + (tabT M ((ls.map Int.toNat).drop k)).length = T)) (fun _ _ i _ => ls.length - (intOf i).toNat)
    case atStart => exact ⟨0, 4, x0, by omega, rfl, rfl, rfl, by omega, by omega, rfl, hide (by rw [List.drop_zero, HD.out])⟩
    case round =>
      obtain ⟨k, N, M, hk, rfl, rfl, rfl, hM, hN, rfl, hsum⟩ := hrel
      by_cases hlt : k < ls.length
      · obtain ⟨b, o, x, hAb, hbb, hx, hc⟩ := H.out.int hlt
        simp only [Option.some.injEq, Addr.mk.injEq, and_true] at hAb
        obtain ⟨rfl, rfl⟩ := hAb
        obtain ⟨v0, v1⟩ := HRg.out x (List.mem_of_getElem? hx)
        obtain ⟨x, rfl⟩ := Int.eq_ofNat_of_zero_le v0
        have hs := hsum.out
        rw [dropN hx, tabT, List.length_append, moveT_length, Int.toNat_natCast] at hs
        have hN2 : N + (1 + 2 * ((x - M) + (M - x))) ≤ 20000 := by omega
        have HS := hide (show N + (1 + 2 * ((x - M) + (M - x))) + (tabT x ((ls.map Int.toNat).drop (k + 1))).length = T by omega)
        clear hs hsum hx
        go_wp2_with fail
        go_roundw
        case rel => exact ⟨k + 1, N + (1 + 2 * ((x - M) + (M - x))), x, by omega, by go_num, v_int (by split <;> omega), rfl, by omega, hN2, by first | rfl | trivial, HS⟩
        case measure => simp [intOf]; omega
      · have hs := hsum.out
        rw [List.drop_eq_nil_of_le (by simp; omega), tabT] at hs
        have HS := hide (show N = T by simpa using hs)
        clear hs hsum
        go_wp2_with fail
        go_ret2
        refine ⟨?_, ⟨1, rfl⟩⟩
        rw [HW.out, if_pos rfl, ← HT.out, ← HS.out]; rfl
  · have h7 := tabW_seven h0
    rw [h7] at ck
    have HCk := hide ck
    have HW := hide h7
    clear ck h0 h7
    go_enter Tryd.func8, Tryd.ntmps8
    go_wp2_with (go_at_call 18; refine (Calls.mono HCk.out ?_); rintro e w' ⟨rfl, hww⟩; replace hww := hww.symm; subst hww)
    go_ret2
    refine ⟨?_, ⟨0, rfl⟩⟩
    rw [HW.out, if_neg (by decide)]; rfl

/-- What Add may leave. -/
def TAddP (B p : Nat) (l0 : List Bool) (ls : List Int) (w : World) (e : Ending) (w' : World) : Prop := e = .returned (.tuple #[]) ∧ ∃ row', Wr w' p row' (l0 ++ tabBits ls) ∧ (∀ g, row' = some g → B ≤ g) ∧ Below B w w'
theorem rowB {w : World} {row row' : Option Nat} {B : Nat} (h : rowNew w row row') (hr : ∀ g, row = some g → B ≤ g) (hB : B ≤ w.heap.size) : ∀ g, row' = some g → B ≤ g := by
  rintro g rfl
  rcases h with h | ⟨g', h, hg⟩
  · exact hr g h.symm
  · have : g = g' := by simpa using h
    omega
theorem frB {w w' : World} {p B : Nat} {row : Option Nat} (h : Fr (wS p row) w w') (hp : B ≤ p) (hr : ∀ g, row = some g → B ≤ g) (hB : B ≤ w.heap.size) : Below B w w' :=
  h.toBelowB (fun g hg => by rcases hg with rfl | hg; exact hp; exact hr g hg) hB
#print axioms tsize_any
end Go.Proofs.YtggffiikfelbjaaDoor
