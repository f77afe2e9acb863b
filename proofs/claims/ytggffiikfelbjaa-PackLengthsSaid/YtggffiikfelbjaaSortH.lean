/- Walks: slices.symMergeCmpFunc whole; stableCmpFunc, SortStableFunc. -/
import Derived.Test.YtggffiikfelbjaaSortF
import Derived.Test.YtggffiikfelbjaaSortG
namespace Go.Proofs.Ytggffiikfelbjaa
open Go.RowKit

theorem sym_ok (g B c L : Nat) (ws : List Int) (hlen : L ≤ 1000000) : ∀ N, SymOK g B c L ws N := by
  intro N
  induction N with
  | zero => intro a m b P X Y Q w hN hX; omega
  | succ N ih =>
    intro a m b P X Y Q w hN hX hY h hL ha hm hb sX sY hxy hxn hyn hC
    by_cases h1 : X.length = 1
    · obtain ⟨x, rfl⟩ := List.length_eq_one_iff.1 h1
      have := sym_left g B c a m b L x ws P Y Q w (by simpa using h) (by simpa using hL) ha (by simpa using hm) (by simpa using hb) hlen sY (fun y hy => hxy x (by simp) y hy) (hxn x (by simp)) hyn hC
      simpa using this
    · by_cases h2 : Y.length = 1
      · obtain ⟨y, rfl⟩ := List.length_eq_one_iff.1 h2
        exact sym_right g B c a m b L y ws P X Q w (by simpa using h) (by simpa using hL) ha hm (by simpa using hb) (by omega) hlen sX (fun x hx => hxy x hx y (by simp)) (hyn y (by simp)) hxn hC
      · by_cases hg : (a + b) / 2 < m
        · exact sym_hi g B c L N ws hlen ih a m b P X Y Q w hN (by omega) (by omega) hg h hL ha hm hb sX sY hxy hxn hyn hC
        · exact sym_lo g B c L N ws hlen ih a m b P X Y Q w hN (by omega) (by omega) hg h hL ha hm hb sX sY hxy hxn hyn hC
/-- Full blocks of k, each sorted, each of the places that it had. -/
inductive Full (ws : List Int) (k : Nat) : List Nat → List Nat → Prop
  | nil : Full ws k [] []
  | snoc {Zd Sd Z S : List Nat} : Full ws k Zd Sd → Z.length = k → Z.Perm S → Z.Pairwise (Lx ws) → Full ws k (Zd ++ Z) (Sd ++ S)
/-- Blocks of k, the last one maybe less. -/
inductive Blk (ws : List Int) (k : Nat) : List Nat → List Nat → Prop
  | last {Z S : List Nat} : Z.length ≤ k → Z.Perm S → Z.Pairwise (Lx ws) → Blk ws k Z S
  | cons {Z S Zr Sr : List Nat} : Z.length = k → Z.Perm S → Z.Pairwise (Lx ws) → Blk ws k Zr Sr → Blk ws k (Z ++ Zr) (S ++ Sr)
theorem Blk.all {ws : List Int} {k : Nat} {Zr Sr : List Nat} (h : Blk ws k Zr Sr) {Zd Sd : List Nat} (hf : Full ws k Zd Sd) : Blk ws k (Zd ++ Zr) (Sd ++ Sr) := by
  induction hf generalizing Zr Sr with
  | nil => exact h
  | snoc _ h1 h2 h3 ih =>
    rw [List.append_assoc, List.append_assoc]
    exact ih (.cons h1 h2 h3 h)
theorem Full.perm {ws : List Int} {k : Nat} {Z S : List Nat} (h : Full ws k Z S) : Z.Perm S := by
  induction h with
  | nil => exact List.Perm.refl _
  | snoc _ _ h2 _ ih => exact ih.append h2
theorem Blk.perm {ws : List Int} {k : Nat} {Z S : List Nat} (h : Blk ws k Z S) : Z.Perm S := by
  induction h with
  | last _ h _ => exact h
  | cons _ h _ _ ih => exact h.append ih
/-- No more than one block. -/
theorem Blk.one {ws : List Int} {k : Nat} {Z S : List Nat} (h : Blk ws k Z S) (hl : Z.length ≤ k) : Z.Pairwise (Lx ws) := by
  cases h with
  | last _ _ h => exact h
  | cons h1 h2 h3 h4 =>
    rename_i Z1 S1 Zr Sr
    have : Zr = [] := List.eq_nil_of_length_eq_zero (by rw [List.length_append] at hl; omega)
    rw [this, List.append_nil]; exact h3
/-- The first block of more. -/
theorem Blk.first {ws : List Int} {k : Nat} {Z S : List Nat} (h : Blk ws k Z S) (hl : k ≤ Z.length) : ∃ Z1 Zr S1 Sr, Z = Z1 ++ Zr ∧ S = S1 ++ Sr ∧ Z1.length = k ∧ Z1.Perm S1 ∧ Z1.Pairwise (Lx ws) ∧ Blk ws k Zr Sr := by
  cases h with
  | last h1 h2 h3 => exact ⟨Z, [], S, [], by simp, by simp, by omega, h2, h3, .last (by simp) (List.Perm.refl _) List.Pairwise.nil⟩
  | cons h1 h2 h3 h4 => exact ⟨_, _, _, _, rfl, rfl, h1, h2, h3, h4⟩
theorem ltS {S S1 S2 A C Z1 Z2 : List Nat} (h : S.Pairwise (fun x y => x < y)) (e : S = A ++ (S1 ++ (S2 ++ C))) (p1 : Z1.Perm S1) (p2 : Z2.Perm S2) : ∀ x ∈ Z1, ∀ y ∈ Z2, x < y := by
  intro x hx y hy
  rw [e, List.pairwise_append] at h
  have h2 := List.pairwise_append.1 h.2.1
  exact h2.2.2 x (p1.subset hx) y (List.mem_append_left _ (p2.subset hy))

set_option maxRecDepth 100000 in
set_option maxHeartbeats 8000000 in
theorem stable_any (g B c L : Nat) (ws : List Int) (S : List Nat) (w : World) (h : Dat w g S) (hL : L = S.length) (hlen : L ≤ 1000000) (hS : S.Pairwise (fun x y => x < y)) (hn : ∀ x ∈ S, x < ws.length) (hC : CmpAt g B ws w) :
    Calls Try.prog 70 #[.slice (some ⟨g, 0, none⟩) L c, .int .i64 L, .func (.func 66) #[] #[.pointer (some ⟨B, 0, none⟩)]] w (SortP ws g [] S [] w) := by
  have H := hide h
  have HL := hide hL
  have HS := hide (And.intro hS hn)
  have HC := hide hC
  clear h hL hS hn hC
  go_enter Try.func70, Try.ntmps70
  go_wp2_with fail
  go_loopw [7, 8] (fun va vb wr => ∃ (a b : Nat) (Zd Sd R : List Nat), va = .int .i64 a ∧ vb = .int .i64 b ∧ a ≤ L ∧ b ≤ a + 20 ∧ a + 20 ≤ b ∧ Hid (S = Sd ++ R) ∧ Hid (Full ws 20 Zd Sd) ∧ Hid (Zd.length = a) ∧ Hid (Dat wr g (Zd ++ R)) ∧ Hid (Fr (fun k => k = g) w wr)) (fun a _ _ => L - (intOf a).toNat)
  case atStart => exact ⟨0, 20, [], [], S, rfl, rfl, by omega, by omega, by omega, hide rfl, hide .nil, hide rfl, H, hide (Fr.refl _ _)⟩
  case round =>
    clear H
    obtain ⟨a, b, Zd, Sd, R, rfl, rfl, haL, hb1, hb2, e1, e2, e3, HD, HF⟩ := hrel
    have hRl : R.length = L - a := by
      have h1 := congrArg List.length e1.out
      have h2 := e2.out.perm.length_eq
      have h3 := e3.out
      have h4 := HL.out
      rw [List.length_append] at h1; omega
    have HR := hide hRl
    clear hRl
    by_cases hb : b ≤ L
    · have db : decide ((b : Int) ≤ (L : Int)) = true := decide_eq_true (by omega)
      obtain ⟨R1, R2, hr, hr1, hr2⟩ : ∃ R1 R2, R = R1 ++ R2 ∧ R1.length = 20 ∧ R2.length = L - b := ⟨R.take 20, R.drop 20, (List.take_append_drop _ _).symm, by have := HR.out; simp; omega, by have := HR.out; simp; omega⟩
      subst hr
      have hpw := HS.out.1
      rw [e1.out, List.pairwise_append] at hpw
      have ins := insertion_any g B c a b L ws Zd R1 R2 wr HD.out (by have := HR.out; have := e3.out; rw [List.length_append]; omega) e3.out.symm (by have := e3.out; omega) hlen (List.pairwise_append.1 hpw.2.1).1 (fun x hx => HS.out.2 x (by rw [e1.out]; simp [hx])) (HC.out.fr HF.out)
      have HI := hide ins
      have HR12 := hide (And.intro hr1 hr2)
      clear ins hpw hr1 hr2
      go_wp2_with (go_at_call 73; refine (Calls.mono HI.out ?_); rintro e9 w9 ⟨Z9, rfl, hp9, hs9, hd9, hf9⟩; have HP9 := hide hp9; have HS9 := hide hs9; have HD9 := hide hd9; have HF9 := hide hf9; clear hp9 hs9 hd9 hf9)
      go_roundw
      case rel =>
        have hz := HP9.out.length_eq
        exact ⟨b, b + 20, Zd ++ Z9, Sd ++ R1, R2, rfl, by go_num, hb, by omega, by omega, hide (by rw [e1.out]; simp), hide (.snoc e2.out (by rw [hz]; exact HR12.out.1) HP9.out HS9.out), hide (by have := HR12.out; have := e3.out; rw [List.length_append]; omega), hide (by have := HD9.out; simpa using this), hide (HF.out.trans HF9.out (fun _ h => .inl h))⟩
      case measure => simp [intOf]; omega
    · have db : decide ((b : Int) ≤ (L : Int)) = false := decide_eq_false (by omega)
      have hpw := HS.out.1
      rw [e1.out, List.pairwise_append] at hpw
      have ins := insertion_any g B c a L L ws Zd R [] wr (by have := HD.out; simpa using this) (by have := HR.out; have := e3.out; simp; omega) e3.out.symm (by have := e3.out; have := HR.out; omega) hlen hpw.2.1 (fun x hx => HS.out.2 x (by rw [e1.out]; simp [hx])) (HC.out.fr HF.out)
      have HI := hide ins
      clear ins hpw
      go_wp2_with (go_at_call 73; refine (Calls.mono HI.out ?_); rintro e9 w9 ⟨Z9, rfl, hp9, hs9, hd9, hf9⟩; have HP9 := hide hp9; have HS9 := hide hs9; have HD9 := hide hd9; have HF9 := hide hf9; clear hp9 hs9 hd9 hf9)
      have blk : Blk ws 20 (Zd ++ Z9) S := by
        rw [e1.out]
        refine Blk.all (.last ?_ HP9.out HS9.out) e2.out
        have := HP9.out.length_eq; have := HR.out; omega
      have HBl := hide blk
      have HF2 := hide (HF.out.trans HF9.out (fun _ h => .inl h))
      have HD2 : Hid (Dat w9 g (Zd ++ Z9)) := hide (by have := HD9.out; simpa using this)
      clear blk HD HF HD9 HF9 HI HP9 HS9 HR e1 e2 e3
      go_loopw [6] (fun vk wr => ∃ (k : Nat) (Z : List Nat), vk = .int .i64 k ∧ 20 ≤ k ∧ k ≤ 2000000 ∧ Hid (Blk ws k Z S) ∧ Hid (Dat wr g Z) ∧ Hid (Fr (fun k => k = g) w wr)) (fun k _ => L - (intOf k).toNat)
      case atStart => exact ⟨20, Zd ++ Z9, rfl, by omega, by omega, HBl, HD2, HF2⟩
      case round =>
        clear HBl HD2 HF2
        obtain ⟨k, Z, rfl, hk1, hk2, HBl, HD, HF⟩ := hrel
        have hzl : Z.length = L := by have := HBl.out.perm.length_eq; have := HL.out; omega
        have HZl := hide hzl
        clear hzl
        by_cases hkL : k < L
        · have dk : decide ((k : Int) < (L : Int)) = true := decide_eq_true (by omega)
          go_wp2_with fail
          go_loopw [7, 8] (fun va vb wx => ∃ (a b : Nat) (Zd Sd Zr Sr : List Nat), va = .int .i64 a ∧ vb = .int .i64 b ∧ a ≤ L ∧ b ≤ a + 2 * k ∧ a + 2 * k ≤ b ∧ Hid (S = Sd ++ Sr) ∧ Hid (Full ws (2 * k) Zd Sd) ∧ Hid (Blk ws k Zr Sr) ∧ Hid (Zd.length = a) ∧ Hid (Zr.length = L - a) ∧ Hid (Dat wx g (Zd ++ Zr)) ∧ Hid (Fr (fun k => k = g) w wx)) (fun a _ _ => L - (intOf a).toNat)
          case atStart => exact ⟨0, 2 * k, [], [], Z, S, rfl, v_int (by omega), by omega, by omega, by omega, hide rfl, hide .nil, HBl, hide rfl, hide (by have := HZl.out; omega), HD, HF⟩
          case round =>
            clear HBl HD HF HZl
            obtain ⟨a, b, Zd, Sd, Zr, Sr, rfl, rfl, haL, hb1, hb2, e1, e2, e3, e4, e5, HD, HF⟩ := hrel
            by_cases hb : b ≤ L
            · have db : decide ((b : Int) ≤ (L : Int)) = true := decide_eq_true (by omega)
              obtain ⟨Z1, Zs, S1, Ss, hz1, hs1, hl1, hp1, ho1, hB1⟩ := e3.out.first (by have := e5.out; omega)
              obtain ⟨Z2, Zt, S2, St, hz2, hs2, hl2, hp2, ho2, hB2⟩ := hB1.first (by have := e5.out; rw [hz1, List.length_append] at this; omega)
              subst hz1 hs1 hz2 hs2
              have hm : a + k ≤ L := by omega
              have hIn : ∀ x ∈ S1 ++ S2, x < ws.length := fun x hx => HS.out.2 x (by rw [e1.out]; simp only [List.mem_append] at hx ⊢; rcases hx with h | h <;> simp [h])
              have sym := sym_ok g B c L ws hlen _ a (a + k) b Zd Z1 Z2 Zt wr (Nat.le_refl _) (by omega) (by omega) HD.out (by have := e5.out; have := e4.out; simp only [List.length_append] at *; omega) e4.out.symm (by have := e4.out; omega) (by have := e4.out; omega) ho1 ho2 (ltS HS.out.1 e1.out hp1 hp2) (fun x hx => hIn x (List.mem_append_left _ (hp1.subset hx))) (fun x hx => hIn x (List.mem_append_right _ (hp2.subset hx))) (HC.out.fr HF.out)
              have HSy := hide sym
              have HP12 := hide (hp1.append hp2)
              have HL12 := hide (And.intro hl1 hl2)
              have HB2 := hide hB2
              clear sym hp1 hp2 ho1 ho2 hIn hB1 hB2 hl1 hl2
              go_wp2_with (go_at_call 74; refine (Calls.mono HSy.out ?_); rintro e9 w9 ⟨Z9, rfl, hp9, hs9, hd9, hf9⟩; have HP9 := hide hp9; have HS9 := hide hs9; have HD9 := hide hd9; have HF9 := hide hf9; clear hp9 hs9 hd9 hf9)
              go_roundw
              case rel =>
                have hl9 : Z9.length = 2 * k := by have := HP9.out.length_eq; have := HL12.out; rw [List.length_append] at *; omega
                refine ⟨b, b + 2 * k, Zd ++ Z9, Sd ++ (S1 ++ S2), Zt, St, rfl, v_int (by omega), hb, by omega, by omega, hide (by rw [e1.out]; simp), hide (.snoc e2.out hl9 (HP9.out.trans HP12.out) HS9.out), HB2, hide (by have := e4.out; rw [List.length_append]; omega), hide ?_, hide (by have := HD9.out; simpa using this), hide (HF.out.trans HF9.out (fun _ h => .inl h))⟩
                have := e5.out
                have := HL12.out
                simp only [List.length_append] at *
                omega
              case measure => simp [intOf]; omega
            · have db : decide ((b : Int) ≤ (L : Int)) = false := decide_eq_false (by omega)
              by_cases hm : a + k < L
              · have dm : decide ((a : Int) + (k : Int) < (L : Int)) = true := decide_eq_true (by omega)
                obtain ⟨Z1, Z2, S1, S2, hz1, hs1, hl1, hp1, ho1, hB1⟩ := e3.out.first (by have := e5.out; omega)
                subst hz1 hs1
                have hl2 : Z2.length = L - a - k := by have := e5.out; rw [List.length_append] at this; omega
                have ho2 := hB1.one (by omega)
                have hp2 := hB1.perm
                have hIn : ∀ x ∈ S1 ++ S2, x < ws.length := fun x hx => HS.out.2 x (by rw [e1.out]; exact List.mem_append_right _ hx)
                have sym := sym_ok g B c L ws hlen _ a (a + k) L Zd Z1 Z2 [] wr (Nat.le_refl _) (by omega) (by omega) (by have := HD.out; simpa using this) (by have := e4.out; simp only [List.length_append, List.length_nil]; omega) e4.out.symm (by have := e4.out; omega) (by have := e4.out; omega) ho1 ho2 (ltS (C := []) HS.out.1 (by simpa using e1.out) hp1 hp2) (fun x hx => hIn x (List.mem_append_left _ (hp1.subset hx))) (fun x hx => hIn x (List.mem_append_right _ (hp2.subset hx))) (HC.out.fr HF.out)
                have HSy := hide sym
                have HP12 := hide (hp1.append hp2)
                have HL12 := hide (And.intro hl1 hl2)
                clear sym hp1 hp2 ho1 ho2 hIn hB1 hl1 hl2
                go_wp2_with (go_at_call 74; refine (Calls.mono HSy.out ?_); rintro e9 w9 ⟨Z9, rfl, hp9, hs9, hd9, hf9⟩; have HP9 := hide hp9; have HS9 := hide hs9; have HD9 := hide hd9; have HF9 := hide hf9; clear hp9 hs9 hd9 hf9)
                go_roundw
                case rel =>
                  have hl9 : Z9.length ≤ 2 * k := by have := HP9.out.length_eq; have := HL12.out; rw [List.length_append] at *; omega
                  exact ⟨2 * k, Zd ++ Z9, v_int (by omega), by omega, by omega, hide (by rw [e1.out]; exact Blk.all (.last hl9 (HP9.out.trans HP12.out) HS9.out) e2.out), hide (by have := HD9.out; simpa using this), hide (HF.out.trans HF9.out (fun _ h => .inl h))⟩
                case measure => simp [intOf]; omega
              · have dm : decide ((a : Int) + (k : Int) < (L : Int)) = false := decide_eq_false (by omega)
                go_wp2_with fail
                go_roundw
                case rel =>
                  have hl9 : Zr.length ≤ k := by have := e5.out; omega
                  exact ⟨2 * k, Zd ++ Zr, v_int (by omega), by omega, by omega, hide (by rw [e1.out]; exact Blk.all (.last (by omega) e3.out.perm (e3.out.one hl9)) e2.out), HD, HF⟩
                case measure => simp [intOf]; omega
        · have dk : decide ((k : Int) < (L : Int)) = false := decide_eq_false (by omega)
          go_wp2_with fail
          refine bodyPost_ret (results_none rfl _ _ _) rfl ?_
          exact ⟨Z, rfl, HBl.out.perm, HBl.out.one (by have := HZl.out; omega), by have := HD.out; simpa using this, HF.out⟩
theorem sortStable_any (g B c L : Nat) (ws : List Int) (S : List Nat) (w : World) (h : Dat w g S) (hL : L = S.length) (hlen : L ≤ 1000000) (hS : S.Pairwise (fun x y => x < y)) (hn : ∀ x ∈ S, x < ws.length) (hC : CmpAt g B ws w) :
    Calls Try.prog 65 #[.slice (some ⟨g, 0, none⟩) L c, .func (.func 66) #[] #[.pointer (some ⟨B, 0, none⟩)]] w (SortP ws g [] S [] w) := by
  have st := stable_any g B c L ws S w h hL hlen hS hn hC
  have HSt := hide st
  clear st h hL hS hn hC
  go_enter Try.func65, Try.ntmps65
  go_wp2_with (go_at_call 70; refine (Calls.mono HSt.out ?_); rintro e9 w9 ⟨Z9, rfl, hp9, hs9, hd9, hf9⟩; have HP9 := hide hp9; have HS9 := hide hs9; have HD9 := hide hd9; have HF9 := hide hf9; clear hp9 hs9 hd9 hf9)
  refine bodyPost_ret (results_none rfl _ _ _) rfl ?_
  exact ⟨Z9, rfl, HP9.out, HS9.out, HD9.out, HF9.out⟩
#print axioms sortStable_any
end Go.Proofs.Ytggffiikfelbjaa
