/- Walks: wringerref21.Codes, Find, begins. -/
import Derived.Test.YtggffiikfelbjaaFind
namespace Go.Proofs.Ytggffiikfelbjaa
open Go.RowKit

/-- What the reference carries: the code that was given last, its length, whether none was given yet. -/
def RefSt (ls : List Int) (L k cd hd : Nat) (fr : Bool) : Prop :=
  (fr = true ∧ fstC ls L + cntT ls L k = 0 ∧ cd = 0) ∨ (fr = false ∧ 1 ≤ hd ∧ hd ≤ L ∧ (cd + 1) * 2 ^ (L - hd) = fstC ls L + cntT ls L k)
theorem RefSt.miss {ls : List Int} {L k cd hd : Nat} {fr : Bool} {x : Int} (h : RefSt ls L k cd hd fr) (hx : ls[k]? = some x) (hn : ¬ x = (L : Int)) : RefSt ls L (k + 1) cd hd fr := by
  unfold RefSt; rw [cntT_step hx, if_neg hn]; exact h
theorem RefSt.hit {ls : List Int} {L k : Nat} (hL : 1 ≤ L) (hx : ls[k]? = some (L : Int)) : RefSt ls L (k + 1) (fstC ls L + cntT ls L k) L false := by
  refine .inr ⟨rfl, hL, Nat.le_refl _, ?_⟩
  rw [cntT_step hx, if_pos rfl, Nat.sub_self]; omega
theorem RefSt.next {ls : List Int} {L cd hd : Nat} {fr : Bool} (hL : 1 ≤ L) (h : RefSt ls L ls.length cd hd fr) : RefSt ls (L + 1) 0 cd hd fr := by
  have e : fstC ls (L + 1) + cntT ls (L + 1) 0 = 2 * (fstC ls L + cntT ls L ls.length) := by
    rw [cntT_zero, fstC, show L + 1 - 1 = L by omega]
    obtain ⟨m, rfl⟩ : ∃ m, L = m + 1 := ⟨L - 1, by omega⟩
    rw [nxtC, fstC]; rfl
  unfold RefSt
  rw [e]
  rcases h with ⟨a, b, c⟩ | ⟨a, b, c, d⟩
  · exact .inl ⟨a, by omega, c⟩
  · refine .inr ⟨a, b, by omega, ?_⟩
    rw [show L + 1 - hd = (L - hd) + 1 by omega, Nat.pow_succ, ← Nat.mul_assoc, d]; omega

set_option maxRecDepth 100000 in
set_option maxHeartbeats 4000000 in
theorem refCodes_any (A : Option Addr) (ls : List Int) (c : Nat) (w : World) (h : Rd w w.heap.size A (ls.map (.int .i64))) (hlen : ls.length ≤ 9223372036854775807) :
    Calls Try.prog 14 #[.slice A ls.length c] w (CodesP ls w) := by
  have H := hide h
  by_cases hok : okL ls = true
  · have h512 := okL_len hok
    have hW : okW ls = 0 := by simp [okW, hok]
    have ck := refCanonCheck_any A ls c w h hlen
    rw [hW] at ck
    have HCk := hide ck
    have HO := hide hok
    have hmk := run_make_row' (P := Try.prog) 25 23 (.int .u64 0) 8 Try.underlying25 info_u64 rfl .i64 .i64 ls.length (by omega) (by omega)
    clear h hok hW ck
    go_enter Try.func14, Try.ntmps14
    go_wp2_with (go_at_call 19; refine (Calls.mono HCk.out ?_); rintro e w' ⟨rfl, hww⟩; replace hww := hww.symm; subst hww)
    go_loopw [5, 6, 7, 8] (fun cd hd fr l wr => ∃ (L C D : Nat) (f : Bool), (1 ≤ L ∧ L ≤ 16) ∧ l = .int .i64 L ∧ cd = .int .u64 C ∧ hd = .int .i64 D ∧ fr = .bool f ∧ Hid (RefSt ls L 0 C D f) ∧
      Bk wr w.heap.size 23 ((tab ls.length (codP ls L 0)).map (Value.int .u64)).toArray ∧ Below w.heap.size w wr) (fun _ _ _ l _ => 16 - (intOf l).toNat)
    case atStart =>
      refine ⟨1, 0, 0, true, by omega, rfl, rfl, rfl, rfl, .inl ⟨rfl, by simp [cntT_zero, fstC, nxtC], rfl⟩, ?_, by go_grown⟩
      have z3 : ((tab ls.length (codP ls 1 0)).map (Value.int .u64)).toArray = madeCells #[.int .u64 0] ls.length := by
        rw [show tab ls.length (codP ls 1 0) = tab ls.length fun _ => 0 from tab_congr fun j hj => by unfold codP; split; rfl; split; omega; rfl]
        apply Array.ext
        · simp [size_madeCells]
        · intro i h1 h2; simp [madeCells, tab, Nat.mod_one]
      rw [z3]; exact Bk.new _ _ _
    case round =>
      obtain ⟨L, C, D, f, ⟨hL1, hL16⟩, rfl, rfl, rfl, rfl, hst, hbk, hbe⟩ := hrel
      by_cases hl : L ≤ 15
      · have hl' : decide ((L : Int) ≤ 15) = true := decide_eq_true (by omega)
        have HB0 := hide hbk
        have HBe0 := hide hbe
        clear hbk hbe
        go_wp2_with fail
        go_loopw [5, 6, 7, 23] (fun cd hd fr i wx => ∃ (k C D : Nat) (f : Bool), k ≤ ls.length ∧ i = .int .i64 k ∧ cd = .int .u64 C ∧ hd = .int .i64 D ∧ fr = .bool f ∧ Hid (RefSt ls L k C D f) ∧
          Bk wx w.heap.size 23 ((tab ls.length (codP ls L k)).map (Value.int .u64)).toArray ∧ Below w.heap.size w wx) (fun _ _ _ i _ => ls.length - (intOf i).toNat)
        case atStart => exact ⟨0, C, D, f, by omega, rfl, rfl, rfl, rfl, hst, HB0.out, HBe0.out⟩
        case round =>
          clear hst HB0 HBe0
          obtain ⟨k, C, D, f, hk, rfl, rfl, rfl, rfl, hst, hbk, hbe⟩ := hrel
          by_cases hlt : k < ls.length
          · obtain ⟨b, o, x, rfl, hb, hx, hc0⟩ := H.out.int hlt
            have hc := (hbe.cell (p := ⟨b, o + k, none⟩) hb).trans hc0
            have HX := hide hx
            clear hx hc0
            by_cases he : x = (L : Int)
            · subst he
              have hlx : ((L : Int) != (L : Int)) = false := by simp
              obtain ⟨F, hF⟩ : ∃ F, F = fstC ls L + cntT ls L k := ⟨_, rfl⟩
              have hFb : F ≤ 700000000 := by
                have h1 := fstC_small h512 (show L ≤ 16 by omega)
                have h2 := cntT_le ls L k
                omega
              have k0 : wr.cell? ⟨w.heap.size, k, none⟩ = some (.int .u64 (codP ls L k k)) := (hbk.cell k).trans (by simp [tab, hlt])
              have k1 := hbk.free k
              have hb2 := hbk.set_ k (.int .u64 (F : Nat))
              rw [List.setIfInBounds_toArray, ← List.map_set, hF, codP_hit hL1 hl HX.out, ← hF] at hb2
              have HB2 := hide hb2
              have HF := hide hF
              have hst2 := RefSt.hit hL1 HX.out
              rw [← hF] at hst2
              have HSt := hide hst2
              clear hb2 hF hst2 hbk
              rcases hst.out with ⟨rfl, hz, rfl⟩ | ⟨rfl, hd1, hd2, hd3⟩
              · have hF0 : F = 0 := by rw [HF.out]; exact hz
                subst hF0
                clear hz
                go_wp2_with fail
                go_roundw
                case rel => exact ⟨k + 1, 0, L, false, by omega, by go_num, rfl, rfl, rfl, HSt, HB2.out, hbe.setCell (Nat.le_refl _) _⟩
                case measure => simp [intOf]; omega
              · have hCb : C + 1 ≤ F := by
                  rw [HF.out, ← hd3]
                  exact Nat.le_mul_of_pos_right _ (Nat.two_pow_pos _)
                have e1 : ((C : Int) + 1) * 2 ^ (L - D) = (F : Int) := by
                  rw [HF.out, ← hd3, Int.natCast_mul, Int.natCast_pow]; rfl
                clear hd3
                go_wp2_with fail
                go_roundw
                case rel => exact ⟨k + 1, F, L, false, by omega, by go_num, rfl, rfl, rfl, HSt, HB2.out, hbe.setCell (Nat.le_refl _) _⟩
                case measure => simp [intOf]; omega
            · have hxb : (x != (L : Int)) = true := by simpa using he
              have hst2 := hst.out.miss HX.out he
              have HSt := hide hst2
              have hb2 := hbk
              rw [← codP_miss hL1 HX.out he] at hb2
              have HB2 := hide hb2
              clear he hst2 hb2 hbk
              go_wp2_with fail
              go_roundw
              case rel => exact ⟨k + 1, C, D, f, by omega, by go_num, rfl, rfl, rfl, HSt, HB2.out, hbe⟩
              case measure => simp [intOf]; omega
          · have hkl : k = ls.length := by omega
            have hst2 := hst.out
            rw [hkl] at hst2
            have HSt := hide (hst2.next hL1)
            have hb2 := hbk
            rw [hkl, codP_next] at hb2
            have HB2 := hide hb2
            clear hst2 hb2 hbk hkl
            go_wp2_with fail
            go_roundw
            case rel => exact ⟨L + 1, C, D, f, by omega, by go_num, rfl, rfl, rfl, HSt, HB2.out, hbe⟩
            case measure => simp [intOf]; omega
      · have hl' : decide ((L : Int) ≤ 15) = false := decide_eq_false (by omega)
        obtain rfl : L = 16 := by omega
        have HB := hide hbk
        clear hbk
        go_wp2_with fail
        go_ret2
        have e1 : codesL ls = tab ls.length (fun j => (codeN ls j : Nat)) := by simp [codesL, HO.out]
        have e2 : okW ls = 0 := by simp [okW, HO.out]
        refine ⟨some ⟨w.heap.size, 0, none⟩, ls.length, by rw [e1, e2, tab_length]; rfl, ?_, hbe⟩
        intro i u hu
        refine ⟨w.heap.size, 0, rfl, HB.out.lt, ?_⟩
        rw [Nat.zero_add, HB.out.cell i, List.getElem?_toArray, show tab ls.length (codP ls 16 0) = codesL ls from by rw [e1]; exact tab_congr fun j hj => codP_all ls j]
        exact hu
  · have hok : okL ls = false := by simpa using hok
    have hW : okW ls = 7 := by simp [okW, hok]
    have ck := refCanonCheck_any A ls c w h hlen
    rw [hW] at ck
    have HCk := hide ck
    have HO := hide hok
    clear h hok hW ck
    go_enter Try.func14, Try.ntmps14
    go_wp2_with (go_at_call 19; refine (Calls.mono HCk.out ?_); rintro e w' ⟨rfl, hww⟩; replace hww := hww.symm; subst hww)
    go_ret2
    have e1 : codesL ls = [] := by simp [codesL, HO.out]
    refine ⟨none, 0, ?_, by rw [e1]; exact Rd.nil_, Below.refl _ _⟩
    rw [e1, okW, HO.out]; rfl
end Go.Proofs.Ytggffiikfelbjaa
