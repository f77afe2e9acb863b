/- Walks: wringerref21.Find, begins. -/
import Derived.Test.YtggffiikfelbjaaRefCodes
import Derived.Test.YtggffiikfelbjaaCWrite
namespace Go.Proofs.Ytggffiikfelbjaa
open Go.RowKit

/-- No symbol among the first k has this code of this length. -/
def noneL (ls : List Int) (code length : Int) (k : Nat) : Prop := ∀ j x, j < k → ls[j]? = some x → 0 < x → x = length → ¬ (codeN ls j : Int) = code
theorem findR_none {ls : List Int} {code length : Int} (hok : okL ls = true) (hc : 0 ≤ code) (h : noneL ls code length ls.length) : findR ls code length = (0, 3) := by
  unfold findR
  rw [if_pos hok]
  split
  · rfl
  · rename_i g
    cases hf : findC ls code.toNat length.toNat with
    | none => rfl
    | some i =>
      obtain ⟨hi, hx, hcd⟩ := (findC_iff ls _ _ i (by omega) (by omega)).1 hf
      exact absurd (show (codeN ls i : Int) = code by omega) (h i _ hi hx (by omega) (by omega))
theorem findR_some {ls : List Int} {code length : Int} {i : Nat} (hok : okL ls = true) (hx : ls[i]? = some length) (h0 : 0 < length) (hc : (codeN ls i : Int) = code) : findR ls code length = ((i : Int), (0 : Int)) := by
  have hr := okL_range hok hx
  unfold findR
  rw [if_pos hok, if_neg (by omega), (findC_iff ls _ _ i (by omega) (by omega)).2 ⟨(List.getElem?_eq_some_iff.1 hx).1, by rw [hx]; congr 1; omega, by omega⟩]

set_option maxRecDepth 100000 in
set_option maxHeartbeats 4000000 in
theorem refFind_any (A : Option Addr) (ls : List Int) (c : Nat) (code length : Int) (w : World) (h : Rd w w.heap.size A (ls.map (.int .i64))) (hlen : ls.length ≤ 9223372036854775807) (hc : U64 code) (hl : I64 length) :
    Calls Try.prog 16 #[.slice A ls.length c, .int .u64 code, .int .i64 length] w (FindP ls code length w) := by
  have ck := refCodes_any A ls c w h hlen
  unfold CodesP at ck
  have H := hide h
  clear h
  obtain ⟨u1, u2⟩ := hc
  obtain ⟨l1, l2⟩ := hl
  by_cases hok : okL ls = true
  · have e1 : codesL ls = tab ls.length (fun j => (codeN ls j : Nat)) := by simp [codesL, hok]
    have e2 : okW ls = 0 := by simp [okW, hok]
    rw [e1, e2, tab_length] at ck
    have HCk := hide ck
    have HO := hide hok
    have h512 := okL_len hok
    clear ck hok e1 e2
    go_enter Try.func16, Try.ntmps16
    go_wp2_with (go_at_call 14; refine (Calls.mono HCk.out ?_); rintro e w1 ⟨A', c', rfl, hrd, hbe⟩)
    have HRd := hide hrd
    clear hrd
    go_loopw [22] (fun i wr => ∃ k j : Nat, k ≤ ls.length ∧ i = .int .i64 k ∧ wr = w1.drewN j ∧ Hid (noneL ls code length k)) (fun i _ => ls.length - (intOf i).toNat)
    case atStart => exact ⟨0, 0, by omega, rfl, rfl, fun j x hj => by omega⟩
    case round =>
      obtain ⟨k, j, hk, rfl, rfl, hno⟩ := hrel
      by_cases hlt : k < ls.length
      · obtain ⟨b, o, x, rfl, hb, hx, hc0⟩ := H.out.int hlt
        have hc := (hbe.cell (p := ⟨b, o + k, none⟩) hb).trans hc0
        have hxr := okL_range HO.out hx
        obtain ⟨b2, o2, hA', hb2, hcv⟩ := HRd.out k (.int .u64 (codeN ls k : Nat)) (by rw [List.getElem?_map, tab_get _ hlt]; rfl)
        subst hA'
        obtain ⟨V, hV⟩ : ∃ V, V = codeN ls k := ⟨_, rfl⟩
        have hVb := codeN_lt ls k h512
        rw [← hV] at hcv hVb
        have HV := hide hV
        have HX := hide hx
        clear hV hx hc0
        by_cases g : 0 < x ∧ x = length ∧ (V : Int) = code
        · obtain ⟨g1, rfl, rfl⟩ := g
          have hfr := findR_some (code := (V : Int)) HO.out HX.out g1 (by rw [HV.out])
          have HF := hide hfr
          have q1 : decide (0 < x) = true := decide_eq_true g1
          have q2 : (x == x) = true := by simp
          have q3 : ((V : Int) == (V : Int)) = true := by simp
          clear hfr
          go_wp2_with fail
          go_ret2
          exact FindP.of HF.out (below_drewN hbe _)
        · have hno2 : noneL ls code length (k + 1) := by
            intro j' x' hj hx' h0 he hc2
            by_cases e : j' = k
            · subst e
              rw [HX.out] at hx'; cases hx'
              rw [← HV.out] at hc2
              exact g ⟨h0, he, hc2⟩
            · exact hno.out j' x' (by omega) hx' h0 he hc2
          have HN := hide hno2
          clear hno2 hno
          have fin : ∀ m : Nat, ∃ (k' j' : Nat), k' ≤ ls.length ∧ (Value.int .i64 ((k : Int) + 1)) = .int .i64 k' ∧ (w1.drewN m) = w1.drewN j' ∧ Hid (noneL ls code length k') := fun m => ⟨k + 1, m, by omega, by go_num, rfl, HN⟩
          have HFin := hide fin
          clear fin
          by_cases g1 : 0 < x
          · have q1 : decide (0 < x) = true := decide_eq_true g1
            by_cases g2 : x = length
            · subst g2
              have q2 : (x == x) = true := by simp
              have q3 : ((V : Int) == code) = false := by simp; intro h; exact g ⟨g1, rfl, h⟩
              clear g
              go_wp2_with fail
              go_roundw
              case rel => exact HFin.out _
              case measure => simp [intOf]; omega
            · have q2 : (x == length) = false := by simpa using g2
              clear g
              go_wp2_with fail
              go_roundw
              case rel => exact HFin.out _
              case measure => simp [intOf]; omega
          · have q1 : decide (0 < x) = false := decide_eq_false g1
            clear g
            go_wp2_with fail
            go_roundw
            case rel => exact HFin.out _
            case measure => simp [intOf]; omega
      · have hkl : k = ls.length := by omega
        have hn2 := hno.out
        rw [hkl] at hn2
        have HF := hide (findR_none HO.out u1 hn2)
        clear hn2 hno
        go_wp2_with fail
        go_ret2
        exact FindP.of HF.out (below_drewN hbe _)
  · have hok : okL ls = false := by simpa using hok
    have e1 : codesL ls = [] := by simp [codesL, hok]
    have e2 : okW ls = 7 := by simp [okW, hok]
    have hf : findR ls code length = (0, 7) := by unfold findR; rw [if_neg (by rw [hok]; decide)]
    rw [e1, e2] at ck
    have HCk := hide ck
    have HF := hide hf
    clear ck hf hok e1 e2
    go_enter Try.func16, Try.ntmps16
    go_wp2_with (go_at_call 14; refine (Calls.mono HCk.out ?_); rintro e w1 ⟨A', c', rfl, hrd, hbe⟩)
    go_ret2
    exact FindP.of HF.out hbe

/-- Some longer code among the first k begins with this one. -/
def begL (ls : List Int) (code L k : Nat) : Prop := ∃ (j m : Nat), j < k ∧ ls[j]? = some (m : Int) ∧ L < m ∧ codeN ls j / 2 ^ (m - L) = code
theorem begL_step {ls : List Int} {code L k m : Nat} (h : ¬ begL ls code L k) (hx : ls[k]? = some (m : Int)) (hn : ¬ (L < m ∧ codeN ls k / 2 ^ (m - L) = code)) : ¬ begL ls code L (k + 1) := by
  rintro ⟨j, m', hj, hm, h1, h2⟩
  by_cases e : j = k
  · subst e
    rw [hx] at hm
    have e2 : (m : Int) = (m' : Int) := by simpa using hm
    have : m = m' := by omega
    subst this
    exact hn ⟨h1, h2⟩
  · exact h ⟨j, m', by omega, hm, h1, h2⟩
def BegP (ls : List Int) (code L : Nat) (w : World) (e : Ending) (w' : World) : Prop := ∃ r : Bool, e = .returned (.bool r) ∧ (r = true ↔ begL ls code L ls.length) ∧ ∃ j, w' = w.drewN j

set_option maxRecDepth 100000 in
set_option maxHeartbeats 4000000 in
theorem begins_any (A A' : Option Addr) (ls : List Int) (c c' code L : Nat) (w : World) (h : Rd w w.heap.size A (ls.map (.int .i64))) (hok : okL ls = true) (h' : Rd w w.heap.size A' ((tab ls.length (fun j => (codeN ls j : Nat))).map (.int .u64)))
    (hL : L ≤ 16) :
    Calls Try.prog 46 #[.slice A ls.length c, .slice A' ls.length c', .int .u64 code, .int .i64 L] w (BegP ls code L w) := by
  have H := hide h
  have HRd := hide h'
  have HO := hide hok
  have h512 := okL_len hok
  clear h h' hok
  go_enter Try.func46, Try.ntmps46
  go_wp2_with fail
  go_loopw [13] (fun i wr => ∃ k j : Nat, k ≤ ls.length ∧ i = .int .i64 k ∧ wr = w.drewN j ∧ Hid (¬ begL ls code L k)) (fun i _ => ls.length - (intOf i).toNat)
  case atStart => exact ⟨0, 0, by omega, rfl, rfl, fun ⟨j, m, hj, _⟩ => by omega⟩
  case round =>
    obtain ⟨k, j, hk, rfl, rfl, hno⟩ := hrel
    by_cases hlt : k < ls.length
    · obtain ⟨b, o, x, rfl, hb, hx, hc⟩ := H.out.int hlt
      have hxr := okL_range HO.out hx
      obtain ⟨m, rfl⟩ := Int.eq_ofNat_of_zero_le hxr.1
      obtain ⟨b2, o2, hA', hb2, hcv⟩ := HRd.out k (.int .u64 (codeN ls k : Nat)) (by rw [List.getElem?_map, tab_get _ hlt]; rfl)
      subst hA'
      obtain ⟨V, hV⟩ : ∃ V, V = codeN ls k := ⟨_, rfl⟩
      have hVb := codeN_lt ls k h512
      rw [← hV] at hcv hVb
      have HV := hide hV
      have HX := hide hx
      clear hV hx
      by_cases gL : L < m
      · have q1 : decide (L < m) = true := decide_eq_true gL
        have e1 : IntKind.i64.wrap ((m : Int) - (L : Int)) = (m : Int) - (L : Int) := IntWalk.i64_in _ ⟨by omega, by omega⟩
        have e2 : (0 : Int) ≤ (m : Int) - (L : Int) := by omega
        obtain ⟨Q, hQ⟩ : ∃ Q, Q = V / 2 ^ (m - L) := ⟨_, rfl⟩
        have hQ' : (V : Int) / 2 ^ (m - L) = (Q : Int) := by rw [hQ, Int.natCast_ediv, Int.natCast_pow]; rfl
        have HQ := hide hQ
        clear hQ
        by_cases g : Q = code
        · have q2 : ((Q : Int) == (code : Int)) = true := by simp; omega
          have hyes : begL ls code L ls.length := ⟨k, m, hlt, HX.out, gL, by rw [← HV.out, ← HQ.out, g]⟩
          have HY := hide hyes
          clear hyes hno g
          go_wp2_with fail
          go_ret
          exact ⟨true, rfl, ⟨fun _ => HY.out, fun _ => rfl⟩, ⟨_, rfl⟩⟩
        · have q2 : ((Q : Int) == (code : Int)) = false := by simp; omega
          have HN := hide (begL_step hno.out HX.out (fun h => g (by rw [HQ.out, HV.out]; exact h.2)))
          clear hno g
          go_wp2_with fail
          go_roundw
          case rel => exact ⟨k + 1, _, by omega, by go_num, rfl, HN⟩
          case measure => simp [intOf]; omega
      · have q1 : decide (L < m) = false := decide_eq_false gL
        have HN := hide (begL_step hno.out HX.out (fun h => gL h.1))
        clear hno
        go_wp2_with fail
        go_roundw
        case rel => exact ⟨k + 1, _, by omega, by go_num, rfl, HN⟩
        case measure => simp [intOf]; omega
    · have hkl : k = ls.length := by omega
      have hn2 := hno.out
      rw [hkl] at hn2
      have HN := hide hn2
      clear hn2 hno
      go_wp2_with fail
      go_ret
      exact ⟨false, rfl, ⟨fun h => (by cases h), fun h => absurd h HN.out⟩, ⟨j, rfl⟩⟩
end Go.Proofs.Ytggffiikfelbjaa
