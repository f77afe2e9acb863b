/- Walks: pack.Room, wringerref20.Room, slices.Index, slices.Contains. -/
import Derived.Test.YtggffiikfelbjaaBase
namespace Go.Proofs.Ytggffiikfelbjaa
open Go.RowKit

def badL (lim x : Int) : Bool := decide (x < 0) || decide (lim < x)
/-- What lengths take up, in parts of 2^lim. -/
def usedL (lim : Nat) : List Int → Nat
  | [] => 0
  | x :: l => (if 0 < x then 2 ^ (lim - x.toNat) else 0) + usedL lim l
def roomW (ls : List Int) (lim : Int) : Int := if lim < 1 ∨ 15 < lim ∨ 512 < ls.length then 1 else if ls.any (badL lim) then 7 else 0
def roomN (ls : List Int) (lim : Int) : Int := if roomW ls lim = 0 then ((2 ^ lim.toNat : Nat) : Int) - (usedL lim.toNat ls : Nat) else 0

theorem usedL_append (lim : Nat) (a b : List Int) : usedL lim (a ++ b) = usedL lim a + usedL lim b := by
  induction a with
  | nil => simp [usedL]
  | cons x a ih => simp [usedL, ih]; omega
theorem usedL_le (lim : Nat) (a : List Int) : usedL lim a ≤ a.length * 2 ^ lim := by
  induction a with
  | nil => simp [usedL]
  | cons x a ih =>
    have : (if 0 < x then 2 ^ (lim - x.toNat) else 0) ≤ 2 ^ lim := by
      split
      · exact Nat.pow_le_pow_right (by omega) (by omega)
      · exact Nat.zero_le _
    rw [usedL, List.length_cons, Nat.add_mul]; omega
theorem usedL_step {lim : Nat} {l : List Int} {k : Nat} {x : Int} (h : l[k]? = some x) : usedL lim (l.take (k + 1)) = usedL lim (l.take k) + (if 0 < x then 2 ^ (lim - x.toNat) else 0) := by
  rw [List.take_add_one, h, usedL_append]; simp [usedL]
theorem any_step {α : Type} {f : α → Bool} {l : List α} {k : Nat} {x : α} (h : l[k]? = some x) : (l.take (k + 1)).any f = ((l.take k).any f || f x) := by
  rw [List.take_add_one, h, List.any_append]; simp

def RoomP (ls : List Int) (lim : Int) (w : World) (e : Ending) (w' : World) : Prop := e = .returned (.tuple #[.int .i64 (roomN ls lim), .int .i64 (roomW ls lim)]) ∧ w' = w
theorem RoomP.bad {ls : List Int} {lim : Int} {w : World} {k : Int} (h : roomW ls lim = k) (hk : k ≠ 0) : RoomP ls lim w (.returned (.tuple #[.int .i64 0, .int .i64 k])) w := by
  refine ⟨?_, rfl⟩
  rw [roomN, h, if_neg hk]
theorem any_of {α : Type} {f : α → Bool} {l : List α} {k : Nat} {x : α} (h : l[k]? = some x) (hf : f x = true) : l.any f = true :=
  List.any_eq_true.2 ⟨x, List.mem_of_getElem? h, hf⟩

set_option maxRecDepth 100000 in
set_option maxHeartbeats 1000000 in
theorem room_any (A : Option Addr) (ls : List Int) (c : Nat) (lim : Int) (w : World) (h : Rd w w.heap.size A (ls.map (.int .i64))) (hlen : ls.length ≤ 9223372036854775807) (hlim : I64 lim) :
    Calls Try.prog 30 #[.slice A ls.length c, .int .i64 lim] w (RoomP ls lim w) := by
  have H := hide h
  obtain ⟨l1, l2⟩ := hlim
  clear h
  by_cases g : lim < 1 ∨ 15 < lim ∨ 512 < ls.length
  · have hW : roomW ls lim = 1 := by rw [roomW, if_pos g]
    have HW := hide hW
    clear hW
    go_enter Try.func30, Try.ntmps30
    go_wp2
    all_goals
      first
        | (exfalso; omega)
        | (go_ret2; exact RoomP.bad HW.out (by decide))
  · obtain ⟨L, rfl⟩ := Int.eq_ofNat_of_zero_le (show 0 ≤ lim by omega)
    have g1 : 1 ≤ L := by omega
    have g2 : L ≤ 15 := by omega
    have g3 : ls.length ≤ 512 := by omega
    have HG := hide g
    clear g
    have hpow : 2 ^ L ≤ 2 ^ 15 := Nat.pow_le_pow_right (by omega) g2
    obtain ⟨P, hP⟩ : ∃ P : Nat, 2 ^ L = P := ⟨_, rfl⟩
    have hP' : (2 : Int) ^ L = P := by rw [← hP, Int.natCast_pow]; rfl
    rw [hP] at hpow
    have HP := hide hP
    clear hP
    go_enter Try.func30, Try.ntmps30
    go_wp2
    go_loop [6, 21] (fun n i => ∃ k U : Nat, k ≤ ls.length ∧ i = .int .i64 k ∧ n = .int .i64 ((P : Int) - (U : Int)) ∧ Hid (U = usedL L (ls.take k)) ∧ Hid ((ls.take k).any (badL L) = false)) (fun _ i => ls.length - (intOf i).toNat)
    case atStart => exact ⟨0, 0, by omega, rfl, by simp, by simp [usedL, Hid], by simp [Hid]⟩
    case round =>
      obtain ⟨k, U, hk, rfl, rfl, hU, hbad⟩ := hrel
      have hUb : U ≤ 16777216 := by
        have h1 := usedL_le L (ls.take k)
        rw [← hU.out, HP.out] at h1
        have h2 : (ls.take k).length ≤ 512 := by simp; omega
        have := Nat.mul_le_mul h2 hpow
        omega
      by_cases hlt : k < ls.length
      · obtain ⟨b, o, x, rfl, hb, hx, hc⟩ := H.out.int hlt
        have HX := hide hx
        clear hx
        by_cases hx1 : x < 0 ∨ (L : Int) < x
        · have hW : roomW ls L = 7 := by
            rw [roomW, if_neg HG.out, if_pos (any_of HX.out (by simpa [badL] using hx1))]
          have HW := hide hW
          clear hW
          go_wp2
          all_goals
            first
              | (exfalso; omega)
              | (go_ret2; exact RoomP.bad HW.out (by decide))
        · obtain ⟨x, rfl⟩ := Int.eq_ofNat_of_zero_le (show 0 ≤ x by omega)
          have hxL : x ≤ L := by omega
          have hb2 : badL L x = false := by simp [badL]; omega
          have HB := hide hb2
          obtain ⟨Q, hQ⟩ : ∃ Q : Nat, 2 ^ (L - x) = Q := ⟨_, rfl⟩
          have hQ' : (2 : Int) ^ (L - x) = Q := by rw [← hQ, Int.natCast_pow]; rfl
          have hQb : Q ≤ 32768 := by rw [← hQ]; exact Nat.le_trans (Nat.pow_le_pow_right (by omega) (show L - x ≤ 15 by omega)) (by decide)
          have HQ := hide hQ
          clear hx1 hb2 hQ
          by_cases hx0 : 0 < x
          · go_wp2
            all_goals
              first
                | (exfalso; omega)
                | (go_round
                   case rel => exact ⟨k + 1, U + Q, by omega, by go_num, by go_num, hide (by rw [usedL_step HX.out, ← hU.out, if_pos (by omega), Int.toNat_natCast, HQ.out]), hide (by rw [any_step HX.out, hbad.out, HB.out]; rfl)⟩
                   case measure => simp [intOf]; omega)
          · go_wp2
            all_goals
              first
                | (exfalso; omega)
                | (go_round
                   case rel => exact ⟨k + 1, U, by omega, by go_num, rfl, hide (by rw [usedL_step HX.out, ← hU.out, if_neg (by omega)]; rfl), hide (by rw [any_step HX.out, hbad.out, HB.out]; rfl)⟩
                   case measure => simp [intOf]; omega)
      · go_wp2
        go_ret2
        refine ⟨?_, rfl⟩
        have hk' : k = ls.length := by omega
        have hW : roomW ls L = 0 := by rw [roomW, if_neg HG.out, if_neg (by have := hbad.out; rw [hk', List.take_length] at this; rw [this]; decide)]
        have hU' := hU.out
        rw [hk', List.take_length] at hU'
        rw [roomN, hW, if_pos rfl, Int.toNat_natCast, HP.out, ← hU']
        rfl
set_option maxRecDepth 100000 in
set_option maxHeartbeats 1000000 in
theorem refRoom_any (A : Option Addr) (ls : List Int) (c : Nat) (lim : Int) (w : World) (h : Rd w w.heap.size A (ls.map (.int .i64))) (hlen : ls.length ≤ 9223372036854775807) (hlim : I64 lim) :
    Calls Try.prog 31 #[.slice A ls.length c, .int .i64 lim] w (RoomP ls lim w) := by
  have H := hide h
  obtain ⟨l1, l2⟩ := hlim
  clear h
  by_cases g : lim < 1 ∨ 15 < lim ∨ 512 < ls.length
  · have hW : roomW ls lim = 1 := by rw [roomW, if_pos g]
    have HW := hide hW
    clear hW
    go_enter Try.func31, Try.ntmps31
    go_wp2
    all_goals
      first
        | (exfalso; omega)
        | (go_ret2; exact RoomP.bad HW.out (by decide))
  · obtain ⟨L, rfl⟩ := Int.eq_ofNat_of_zero_le (show 0 ≤ lim by omega)
    have g1 : 1 ≤ L := by omega
    have g2 : L ≤ 15 := by omega
    have g3 : ls.length ≤ 512 := by omega
    have HG := hide g
    clear g
    have hpow : 2 ^ L ≤ 2 ^ 15 := Nat.pow_le_pow_right (by omega) g2
    obtain ⟨P, hP⟩ : ∃ P : Nat, 2 ^ L = P := ⟨_, rfl⟩
    have hP' : (2 : Int) ^ L = P := by rw [← hP, Int.natCast_pow]; rfl
    rw [hP] at hpow
    have HP := hide hP
    clear hP
    go_enter Try.func31, Try.ntmps31
    go_wp2
    go_loop [6, 25] (fun n i => ∃ k U : Nat, k ≤ ls.length ∧ i = .int .i64 k ∧ n = .int .i64 ((P : Int) - (U : Int)) ∧ Hid (U = usedL L (ls.take k)) ∧ Hid ((ls.take k).any (badL L) = false)) (fun _ i => ls.length - (intOf i).toNat)
    case atStart => exact ⟨0, 0, by omega, rfl, by simp, by simp [usedL, Hid], by simp [Hid]⟩
    case round =>
      obtain ⟨k, U, hk, rfl, rfl, hU, hbad⟩ := hrel
      have hUb : U ≤ 16777216 := by
        have h1 := usedL_le L (ls.take k)
        rw [← hU.out, HP.out] at h1
        have h2 : (ls.take k).length ≤ 512 := by simp; omega
        have := Nat.mul_le_mul h2 hpow
        omega
      by_cases hlt : k < ls.length
      · obtain ⟨b, o, x, rfl, hb, hx, hc⟩ := H.out.int hlt
        have HX := hide hx
        clear hx
        by_cases hx1 : x < 0 ∨ (L : Int) < x
        · have hW : roomW ls L = 7 := by
            rw [roomW, if_neg HG.out, if_pos (any_of HX.out (by simpa [badL] using hx1))]
          have HW := hide hW
          clear hW
          go_wp2
          all_goals
            first
              | (exfalso; omega)
              | (go_ret2; exact RoomP.bad HW.out (by decide))
        · obtain ⟨x, rfl⟩ := Int.eq_ofNat_of_zero_le (show 0 ≤ x by omega)
          have hxL : x ≤ L := by omega
          have hb2 : badL L x = false := by simp [badL]; omega
          have HB := hide hb2
          obtain ⟨Q, hQ⟩ : ∃ Q : Nat, 2 ^ (L - x) = Q := ⟨_, rfl⟩
          have hQ' : (2 : Int) ^ (L - x) = Q := by rw [← hQ, Int.natCast_pow]; rfl
          have hQb : Q ≤ 32768 := by rw [← hQ]; exact Nat.le_trans (Nat.pow_le_pow_right (by omega) (show L - x ≤ 15 by omega)) (by decide)
          have HQ := hide hQ
          clear hx1 hb2 hQ
          by_cases hx0 : 0 < x
          · go_wp2
            all_goals
              first
                | (exfalso; omega)
                | (go_round
                   case rel => exact ⟨k + 1, U + Q, by omega, by go_num, by go_num, hide (by rw [usedL_step HX.out, ← hU.out, if_pos (by omega), Int.toNat_natCast, HQ.out]), hide (by rw [any_step HX.out, hbad.out, HB.out]; rfl)⟩
                   case measure => simp [intOf]; omega)
          · go_wp2
            all_goals
              first
                | (exfalso; omega)
                | (go_round
                   case rel => exact ⟨k + 1, U, by omega, by go_num, rfl, hide (by rw [usedL_step HX.out, ← hU.out, if_neg (by omega)]; rfl), hide (by rw [any_step HX.out, hbad.out, HB.out]; rfl)⟩
                   case measure => simp [intOf]; omega)
      · go_wp2
        go_ret2
        refine ⟨?_, rfl⟩
        have hk' : k = ls.length := by omega
        have hW : roomW ls L = 0 := by rw [roomW, if_neg HG.out, if_neg (by have := hbad.out; rw [hk', List.take_length] at this; rw [this]; decide)]
        have hU' := hU.out
        rw [hk', List.take_length] at hU'
        rw [roomN, hW, if_pos rfl, Int.toNat_natCast, HP.out, ← hU']
        rfl

def hasL (ls : List Int) (v : Int) : Bool := ls.contains v
/-- What slices.Index answers, as far as it is asked. -/
def IndexP (ls : List Int) (v : Int) (w : World) (e : Ending) (w' : World) : Prop := ∃ r : Int, e = .returned (.int .i64 r) ∧ (decide (0 ≤ r) = hasL ls v) ∧ w' = w
set_option maxRecDepth 100000 in
set_option maxHeartbeats 1000000 in
theorem index_any (A : Option Addr) (ls : List Int) (c : Nat) (v : Int) (w : World) (h : Rd w w.heap.size A (ls.map (.int .i64))) (hlen : ls.length ≤ 9223372036854775807) :
    Calls Try.prog 59 #[.slice A ls.length c, .int .i64 v] w (IndexP ls v w) := by
  have H := hide h
  clear h
  go_enter Try.func59, Try.ntmps59
  go_wp2
  go_loop [8] (fun i => ∃ k : Nat, k ≤ ls.length ∧ i = .int .i64 k ∧ Hid ((ls.take k).any (· == v) = false)) (fun i => ls.length - (intOf i).toNat)
  case atStart => exact ⟨0, by omega, rfl, by simp [Hid]⟩
  case round =>
    obtain ⟨k, hk, rfl, hno⟩ := hrel
    by_cases hlt : k < ls.length
    · obtain ⟨b, o, x, rfl, hb, hx, hc⟩ := H.out.int hlt
      have HX := hide hx
      clear hx
      by_cases he : v = x
      · go_wp2
        all_goals
          first
            | (exfalso; simp_all; done)
            | (go_ret; exact ⟨k, rfl, by rw [decide_eq_true (by omega)]; subst he; exact (List.elem_iff.2 (List.mem_of_getElem? HX.out)).symm, rfl⟩)
      · have hb : (v == x) = false := by simpa using he
        have hb' : (x == v) = false := by simpa using fun h => he h.symm
        have HB := hide hb'
        clear he hb'
        go_wp2
        go_round
        case rel => exact ⟨k + 1, by omega, by go_num, hide (by rw [any_step HX.out, hno.out, HB.out]; rfl)⟩
        case measure => simp [intOf]; omega
    · go_wp2
      go_ret
      refine ⟨-1, rfl, ?_, rfl⟩
      have := hno.out
      rw [show k = ls.length by omega, List.take_length] at this
      rw [decide_eq_false (by omega)]
      unfold hasL
      rcases Bool.eq_false_or_eq_true (ls.contains v) with h | h
      · have hm := List.elem_iff.1 h
        rw [List.any_eq_false] at this
        exact absurd (this v hm) (by simp)
      · exact h.symm
set_option maxHeartbeats 400000 in
theorem contains_any (A : Option Addr) (ls : List Int) (c : Nat) (v : Int) (w : World) (h : Rd w w.heap.size A (ls.map (.int .i64))) (hlen : ls.length ≤ 9223372036854775807) :
    Calls Try.prog 36 #[.slice A ls.length c, .int .i64 v] w fun e w' => e = .returned (.bool (hasL ls v)) ∧ w' = w := by
  have H := hide h
  clear h
  go_enter Try.func36, Try.ntmps36
  go_wp2_with (go_at_call 59; refine (index_any A ls c v _ H.out hlen).mono ?_; rintro e w' ⟨r, rfl, hr, rfl⟩)
  go_ret
  exact ⟨rfl, rfl⟩

/-- How many are above 0. -/
def posL (ls : List Int) : Nat := (ls.filter (fun x => decide (0 < x))).length
/-- Right lengths. -/
def okL (ls : List Int) : Bool := decide (roomW ls 15 = 0) && (decide (usedL 15 ls = 32768) || decide (posL ls = 0) || (decide (posL ls = 1) && hasL ls 1))
def okW (ls : List Int) : Int := if okL ls then 0 else 7
theorem posL_step {l : List Int} {k : Nat} {x : Int} (h : l[k]? = some x) : posL (l.take (k + 1)) = posL (l.take k) + (if 0 < x then 1 else 0) := by
  unfold posL
  rw [List.take_add_one, h, List.filter_append, List.length_append]
  simp only [Option.toList_some, List.filter_cons, List.filter_nil]
  by_cases hx : 0 < x <;> simp [hx]
theorem posL_le (l : List Int) : posL l ≤ l.length := List.length_filter_le _ _

set_option maxRecDepth 100000 in
set_option maxHeartbeats 1000000 in
theorem canonCheck_any (A : Option Addr) (ls : List Int) (c : Nat) (w : World) (h : Rd w w.heap.size A (ls.map (.int .i64))) (hlen : ls.length ≤ 9223372036854775807) :
    Calls Try.prog 18 #[.slice A ls.length c] w fun e w' => e = .returned (.int .i64 (okW ls)) ∧ w' = w := by
  have H := hide h
  clear h
  by_cases hr : roomW ls 15 = 0
  · have HR := hide hr
    have hn : roomN ls 15 = 32768 - (usedL 15 ls : Nat) := by rw [roomN, hr, if_pos rfl]; rfl
    obtain ⟨U, hU⟩ : ∃ U : Nat, U = usedL 15 ls := ⟨_, rfl⟩
    rw [← hU] at hn
    have HU := hide hU
    have h512 : ls.length ≤ 512 := by
      unfold roomW at hr
      rcases Nat.lt_or_ge 512 ls.length with h | h
      · rw [if_pos (by omega)] at hr; cases hr
      · exact h
    have room : ∀ W, W = w → Calls Try.prog 30 #[.slice A ls.length c, .int .i64 15] W fun e w' => e = .returned (.tuple #[.int .i64 (32768 - (U : Int)), .int .i64 0]) ∧ w' = w := fun W hW => by
      subst hW
      refine (room_any A ls c 15 W H.out hlen ⟨by omega, by omega⟩).mono ?_
      rintro e w' ⟨rfl, rfl⟩
      exact ⟨by rw [hn, HR.out], rfl⟩
    have hUb := usedL_le 15 ls
    rw [← hU] at hUb
    have hUb : U ≤ 16777216 := by omega
    clear hr hn hU
    go_enter Try.func18, Try.ntmps18
    go_wp2_with (go_at_call 30; refine (room _ rfl).mono ?_; rintro e w' ⟨rfl, rfl⟩)
    clear room
    go_loop [5, 17] (fun n i => ∃ k N : Nat, k ≤ ls.length ∧ i = .int .i64 k ∧ n = .int .i64 N ∧ N ≤ k ∧ Hid (N = posL (ls.take k))) (fun _ i => ls.length - (intOf i).toNat)
    case atStart => exact ⟨0, 0, by omega, rfl, rfl, by omega, by simp [Hid, posL]⟩
    case round =>
      obtain ⟨k, N, hk, rfl, rfl, hNk, hN⟩ := hrel
      by_cases hlt : k < ls.length
      · obtain ⟨b, o, x, rfl, hb, hx, hc⟩ := H.out.int hlt
        have HX := hide hx
        clear hx
        by_cases h0 : 0 < x
        · go_wp2
          go_round
          case rel => exact ⟨k + 1, N + 1, by omega, by go_num, by go_num, by omega, hide (by rw [posL_step HX.out, if_pos h0, hN.out])⟩
          case measure => simp [intOf]; omega
        · go_wp2
          go_round
          case rel => exact ⟨k + 1, N, by omega, by go_num, rfl, by omega, hide (by rw [posL_step HX.out, if_neg h0, hN.out]; rfl)⟩
          case measure => simp [intOf]; omega
      · have hN' : N = posL ls := by have := hN.out; rwa [show k = ls.length by omega, List.take_length] at this
        have HN := hide hN'
        clear hN'
        have fin : ∀ r : Int, r = okW ls → Hid (r = okW ls) := fun r h => h
        by_cases b1 : U = 32768
        · have hf : okW ls = 0 := by simp [okW, okL, HR.out, ← HU.out, b1]
          have HF := hide hf
          clear hf
          go_wp2_with fail
          all_goals
            first
              | (exfalso; simp_all; done)
              | (go_ret; exact ⟨ret_int HF.out.symm, rfl⟩)
        · have b1' : ((32768 : Int) - (U : Int) == 0) = false := by simp; omega
          by_cases b2 : N = 0
          · have hf : okW ls = 0 := by simp [okW, okL, HR.out, ← HN.out, b2]
            have HF := hide hf
            clear hf
            go_wp2_with fail
            all_goals
              first
                | (exfalso; simp_all; done)
                | (go_ret; exact ⟨ret_int HF.out.symm, rfl⟩)
          · have b2' : ((N : Int) == 0) = false := by simp; omega
            by_cases b3 : N = 1
            · by_cases b4 : hasL ls 1 = true
              · have hf : okW ls = 0 := by simp [okW, okL, HR.out, ← HN.out, b3, b4]
                have HF := hide hf
                subst b3
                clear hf
                go_wp2_with (go_at_call 36; refine (contains_any A ls c 1 _ H.out hlen).mono ?_; rintro e w' ⟨rfl, rfl⟩)
                all_goals
                  first
                    | (exfalso; simp_all; done)
                    | (go_ret; exact ⟨ret_int HF.out.symm, rfl⟩)
              · have b4 : hasL ls 1 = false := by simpa using b4
                have hf : okW ls = 7 := by simp [okW, okL, HR.out, ← HN.out, ← HU.out, b3, b4, b1]
                have HF := hide hf
                subst b3
                clear hf
                go_wp2_with (go_at_call 36; refine (contains_any A ls c 1 _ H.out hlen).mono ?_; rintro e w' ⟨rfl, rfl⟩)
                all_goals
                  first
                    | (exfalso; simp_all; done)
                    | (go_ret; exact ⟨ret_int HF.out.symm, rfl⟩)
            · have b3' : ((N : Int) == 1) = false := by simp; omega
              have hf : okW ls = 7 := by simp [okW, okL, HR.out, ← HN.out, ← HU.out, b3, b2, b1]
              have HF := hide hf
              clear hf
              go_wp2_with fail
              all_goals
                first
                  | (exfalso; simp_all; done)
                  | (go_ret; exact ⟨ret_int HF.out.symm, rfl⟩)
  · have hf : okW ls = 7 := by simp [okW, okL, hr]
    have HF := hide hf
    have hn : roomN ls 15 = 0 := by rw [roomN, if_neg hr]
    obtain ⟨R, hR⟩ : ∃ R, R = roomW ls 15 := ⟨_, rfl⟩
    have hb : (R != 0) = true := by simpa [hR] using hr
    have room : ∀ W, W = w → Calls Try.prog 30 #[.slice A ls.length c, .int .i64 15] W fun e w' => e = .returned (.tuple #[.int .i64 0, .int .i64 R]) ∧ w' = w := fun W hW => by
      subst hW
      refine (room_any A ls c 15 W H.out hlen ⟨by omega, by omega⟩).mono ?_
      rintro e w' ⟨rfl, rfl⟩
      exact ⟨by rw [hn, hR], rfl⟩
    clear hf hn hr hR
    go_enter Try.func18, Try.ntmps18
    go_wp2_with (go_at_call 30; refine (room _ rfl).mono ?_; rintro e w' ⟨rfl, rfl⟩)
    all_goals
      first
        | (exfalso; simp_all; done)
        | (go_ret; exact ⟨ret_int HF.out.symm, rfl⟩)
/-- The last one above 0. -/
def lastP (ls : List Int) : Int := ((ls.filter (fun x => decide (0 < x))).getLast?).getD 0
theorem lastP_step {l : List Int} {k : Nat} {x : Int} (h : l[k]? = some x) : lastP (l.take (k + 1)) = if 0 < x then x else lastP (l.take k) := by
  unfold lastP
  rw [List.take_add_one, h, List.filter_append]
  simp only [Option.toList_some, List.filter_cons, List.filter_nil]
  by_cases hx : 0 < x <;> simp [hx]
theorem lastP_has {ls : List Int} (h : posL ls = 1) : lastP ls = 1 ↔ hasL ls 1 = true := by
  unfold posL at h
  unfold lastP hasL
  match hf : ls.filter (fun x => decide (0 < x)), h with
  | [y], _ =>
    have hm : ∀ x, x ∈ ls.filter (fun x => decide (0 < x)) ↔ x = y := fun x => by rw [hf]; simp
    simp only [List.getLast?_singleton, Option.getD_some]
    constructor
    · rintro rfl
      exact List.elem_iff.2 (List.mem_filter.1 ((hm 1).2 rfl)).1
    · intro h
      exact ((hm 1).1 (List.mem_filter.2 ⟨List.elem_iff.1 h, by decide⟩)).symm
set_option maxRecDepth 100000 in
set_option maxHeartbeats 1000000 in
theorem refCanonCheck_any (A : Option Addr) (ls : List Int) (c : Nat) (w : World) (h : Rd w w.heap.size A (ls.map (.int .i64))) (hlen : ls.length ≤ 9223372036854775807) :
    Calls Try.prog 19 #[.slice A ls.length c] w fun e w' => e = .returned (.int .i64 (okW ls)) ∧ w' = w := by
  have H := hide h
  clear h
  by_cases hr : roomW ls 15 = 0
  · have HR := hide hr
    have hn : roomN ls 15 = 32768 - (usedL 15 ls : Nat) := by rw [roomN, hr, if_pos rfl]; rfl
    obtain ⟨U, hU⟩ : ∃ U : Nat, U = usedL 15 ls := ⟨_, rfl⟩
    rw [← hU] at hn
    have HU := hide hU
    have h512 : ls.length ≤ 512 := by
      unfold roomW at hr
      rcases Nat.lt_or_ge 512 ls.length with h | h
      · rw [if_pos (by omega)] at hr; cases hr
      · exact h
    have room : ∀ W, W = w → Calls Try.prog 31 #[.slice A ls.length c, .int .i64 15] W fun e w' => e = .returned (.tuple #[.int .i64 (32768 - (U : Int)), .int .i64 0]) ∧ w' = w := fun W hW => by
      subst hW
      refine (refRoom_any A ls c 15 W H.out hlen ⟨by omega, by omega⟩).mono ?_
      rintro e w' ⟨rfl, rfl⟩
      exact ⟨by rw [hn, HR.out], rfl⟩
    have hUb := usedL_le 15 ls
    rw [← hU] at hUb
    have hUb : U ≤ 16777216 := by omega
    clear hr hn hU
    go_enter Try.func19, Try.ntmps19
    go_wp2_with (go_at_call 31; refine (room _ rfl).mono ?_; rintro e w' ⟨rfl, rfl⟩)
    clear room
    go_loop [5, 6, 18] (fun n m i => ∃ k N : Nat, ∃ z : Int, k ≤ ls.length ∧ i = .int .i64 k ∧ n = .int .i64 N ∧ N ≤ k ∧ m = .int .i64 z ∧ Hid (N = posL (ls.take k)) ∧ Hid (z = lastP (ls.take k))) (fun _ _ i => ls.length - (intOf i).toNat)
    case atStart => exact ⟨0, 0, 0, by omega, rfl, rfl, by omega, rfl, by simp [Hid, posL], by simp [Hid, lastP]⟩
    case round =>
      obtain ⟨k, N, z, hk, rfl, rfl, hNk, rfl, hN, hZ⟩ := hrel
      by_cases hlt : k < ls.length
      · obtain ⟨b, o, x, rfl, hb, hx, hc⟩ := H.out.int hlt
        have HX := hide hx
        clear hx
        by_cases h0 : 0 < x
        · go_wp2
          go_round
          case rel => exact ⟨k + 1, N + 1, x, by omega, by go_num, by go_num, by omega, rfl, hide (by rw [posL_step HX.out, if_pos h0, hN.out]), hide (by rw [lastP_step HX.out, if_pos h0])⟩
          case measure => simp [intOf]; omega
        · go_wp2
          go_round
          case rel => exact ⟨k + 1, N, z, by omega, by go_num, rfl, by omega, rfl, hide (by rw [posL_step HX.out, if_neg h0, hN.out]; rfl), hide (by rw [lastP_step HX.out, if_neg h0, hZ.out])⟩
          case measure => simp [intOf]; omega
      · have hN' : N = posL ls := by have := hN.out; rwa [show k = ls.length by omega, List.take_length] at this
        have HN := hide hN'
        have hZ' : z = lastP ls := by have := hZ.out; rwa [show k = ls.length by omega, List.take_length] at this
        have HZ := hide hZ'
        clear hZ'
        clear hN'
        have fin : ∀ r : Int, r = okW ls → Hid (r = okW ls) := fun r h => h
        by_cases b1 : U = 32768
        · have hf : okW ls = 0 := by simp [okW, okL, HR.out, ← HU.out, b1]
          have HF := hide hf
          clear hf
          go_wp2_with fail
          all_goals
            first
              | (exfalso; simp_all; done)
              | (go_ret; exact ⟨ret_int HF.out.symm, rfl⟩)
        · have b1' : ((32768 : Int) - (U : Int) == 0) = false := by simp; omega
          by_cases b2 : N = 0
          · have hf : okW ls = 0 := by simp [okW, okL, HR.out, ← HN.out, b2]
            have HF := hide hf
            clear hf
            go_wp2_with fail
            all_goals
              first
                | (exfalso; simp_all; done)
                | (go_ret; exact ⟨ret_int HF.out.symm, rfl⟩)
          · have b2' : ((N : Int) == 0) = false := by simp; omega
            by_cases b3 : N = 1
            · have hlp := lastP_has (ls := ls) (by rw [← HN.out, b3])
              rw [← HZ.out] at hlp
              by_cases b4 : hasL ls 1 = true
              · have bz : z = 1 := hlp.2 b4
                subst bz
                have hf : okW ls = 0 := by simp [okW, okL, HR.out, ← HN.out, b3, b4]
                have HF := hide hf
                subst b3
                clear hf hlp
                go_wp2_with fail
                all_goals
                  first
                    | (exfalso; simp_all; done)
                    | (go_ret; exact ⟨ret_int HF.out.symm, rfl⟩)
              · have bz : (z == 1) = false := by simpa using fun h => b4 (hlp.1 h)
                have b4 : hasL ls 1 = false := by simpa using b4
                have hf : okW ls = 7 := by simp [okW, okL, HR.out, ← HN.out, ← HU.out, b3, b4, b1]
                have HF := hide hf
                subst b3
                clear hf hlp
                go_wp2_with fail
                all_goals
                  first
                    | (exfalso; simp_all; done)
                    | (go_ret; exact ⟨ret_int HF.out.symm, rfl⟩)
            · have b3' : ((N : Int) == 1) = false := by simp; omega
              have hf : okW ls = 7 := by simp [okW, okL, HR.out, ← HN.out, ← HU.out, b3, b2, b1]
              have HF := hide hf
              clear hf
              go_wp2_with fail
              all_goals
                first
                  | (exfalso; simp_all; done)
                  | (go_ret; exact ⟨ret_int HF.out.symm, rfl⟩)
  · have hf : okW ls = 7 := by simp [okW, okL, hr]
    have HF := hide hf
    have hn : roomN ls 15 = 0 := by rw [roomN, if_neg hr]
    obtain ⟨R, hR⟩ : ∃ R, R = roomW ls 15 := ⟨_, rfl⟩
    have hb : (R != 0) = true := by simpa [hR] using hr
    have room : ∀ W, W = w → Calls Try.prog 31 #[.slice A ls.length c, .int .i64 15] W fun e w' => e = .returned (.tuple #[.int .i64 0, .int .i64 R]) ∧ w' = w := fun W hW => by
      subst hW
      refine (refRoom_any A ls c 15 W H.out hlen ⟨by omega, by omega⟩).mono ?_
      rintro e w' ⟨rfl, rfl⟩
      exact ⟨by rw [hn, hR], rfl⟩
    clear hf hn hr hR
    go_enter Try.func19, Try.ntmps19
    go_wp2_with (go_at_call 31; refine (room _ rfl).mono ?_; rintro e w' ⟨rfl, rfl⟩)
    all_goals
      first
        | (exfalso; simp_all; done)
        | (go_ret; exact ⟨ret_int HF.out.symm, rfl⟩)
end Go.Proofs.Ytggffiikfelbjaa
