/- Walk: the document's put of layer 20. -/
import Derived.Test.YtggffiikfelbjaaRefB
namespace Go.Proofs.Ytggffiikfelbjaa
open Go.RowKit

set_option maxRecDepth 100000 in
set_option maxHeartbeats 4000000 in
theorem put_any (A : Option Addr) (l : List QI) (c : Nat) (x : QI) (w : World) (h : RdQ w w.heap.size A l) (hs : SortedQ l) (hlen : l.length ≤ 1000) (hA : (A = none ∧ c = 0) ∨ ∃ b o, A = some ⟨b, o, none⟩) (hc : l.length ≤ c) (h1 : ∀ u ∈ flatQ l, u.oneCell' = true) (hx1 : x.V.oneCell' = true) :
    Calls Try.prog 56 #[.slice A l.length c, .agg #[.int .u64 x.w, x.V]] w fun e w' => ∃ A' c', e = .returned (.slice A' (l.length + 1) c') ∧ RdQ w' w'.heap.size A' (insQ x l) ∧ l.length + 1 ≤ c' ∧ (∀ a, A' = some a → w.heap.size ≤ a.block) ∧ Below w.heap.size w w' := by
  obtain ⟨i0, hi, hz0, hz1, hz2⟩ := info_parts info_ritem
  obtain ⟨xw, V, xv⟩ := x
  have H := hide h
  have HS := hide hs
  have HO := hide h1
  clear h hs h1
  go_enter Try.func56, Try.ntmps56
  go_wp2_with fail
  go_loopw [5] (fun vi wr => ∃ k : Nat, k ≤ l.length ∧ vi = .int .i64 k ∧ Hid (∀ j y, k ≤ j → l[j]? = some y → xw < y.w) ∧ Bk wr w.heap.size 87 #[.int .u64 xw, V] ∧ Below w.heap.size w wr) (fun i _ => (intOf i).toNat)
  case atStart => exact ⟨l.length, Nat.le_refl _, rfl, hide (fun j y hj hy => by have := (List.getElem?_eq_some_iff.1 hy).1; omega), Bk.new _ _ _, (Below.refl _ _).alloc (Nat.le_refl _) _⟩
  case round =>
    obtain ⟨k, hk, rfl, hgt, hbk, hbe⟩ := hrel
    obtain ⟨x0, x1⟩ := two_cells hbk
    have hz := hbk.lt
    by_cases h0 : k = 0
    · have hk0 : decide ((0 : Int) < (k : Int)) = false := decide_eq_false (by omega)
      have hk0n : decide (0 < k) = false := decide_eq_false (by omega)
      have hkw : IntKind.i64.wrap (k : Int) = (k : Int) := IntWalk.i64_in _ ⟨by omega, by omega⟩
      have hfin := insQ_at (x := ⟨xw, V, xv⟩) HS.out hk (fun y _ h => by omega) hgt.out
      have HFin := hide hfin
      have hkc : k ≤ c := by omega
      clear hfin h0
      rcases hA with ⟨rfl, rfl⟩ | ⟨b, o, rfl⟩
      · obtain rfl : l = [] := List.eq_nil_of_length_eq_zero (by omega)
        obtain rfl : k = 0 := by simpa using hk
        have own0 : ∀ W g, Bk W g 87 #[] → w.heap.size ≤ g → W.ownsRow w.heap.size 87 2 (.slice (some ⟨g, 0, none⟩) 0 0) 0 [] := fun W g hb hg => ⟨rfl, .inr ⟨g, 0, #[], rfl, hg, hb, Nat.le_refl _, Nat.zero_le _, rfl, rfl⟩⟩
        have HOwn := hide own0
        have HOx := hide (show ∀ u ∈ [Value.int .u64 (xw : Nat), V], u.oneCell' = true from fun u hu => by
          rcases List.mem_cons.1 hu with rfl | hu
          · rfl
          · rw [List.mem_singleton.1 hu]; exact hx1)
        clear own0 hx1
        go_wp2_with fail
        go_region
        go_wp2_with fail
        go_region_law (
          first
          | (refine step_append_rd rfl (.tmp 23) (.tmp 26) 85 rfl w.heap.size 87 i0 _ 2 32 Try.underlying85 hi hz0 hz1 hz2 rfl (by decide) _ 0 [] rfl (HOwn.out _ _ (by repeat (first | with_reducible exact hbk | (with_reducible refine Bk.newAt ?_; first | with_reducible rfl | (simp; all_goals fail)) | with_reducible refine Bk.drew ?_ | with_reducible refine Bk.alloc ?_ _)) (by omega)) none 0 0 (flatQ (([] : List QI).take 0)) rfl (fun _ => rfl) rfl Rd.nil_ (fun u hu => by simp [flatQ] at hu) (by unfold maxLen; omega) (by omega) (by first | omega | (simp; omega)) ?_
             intro v1 w1 hown1 hgr1
             replace hgr1 : World.grownBy _ w1 (some _) := hgr1
             rw [Nat.zero_add, List.nil_append] at hown1
             have hbe1 : Below w.heap.size w w1 := Below.grown (by repeat (first | with_reducible exact hbe | with_reducible refine Below.drew ?_ | with_reducible refine Below.alloc ?_ (by first | omega | (simp; omega)) _)) hgr1 (by first | omega | (simp; omega)) (fun g hg => by have := Option.some.inj hg; first | omega | (simp at this; all_goals fail) | (simp at this; omega))
             have hz1' := hbe1.size
             have hbk1 : Bk w1 w.heap.size 87 #[.int .u64 xw, V] := Bk.grown (by repeat (first | with_reducible exact hbk | with_reducible refine Bk.drew ?_ | with_reducible refine Bk.alloc ?_ _)) hgr1 (by intro he; have := Option.some.inj he; first | omega | (simp at this; all_goals fail) | (simp at this; omega))
             obtain ⟨y0, y1⟩ := two_cells hbk1
             first
             | (have hx1 : Bk w1 wr.heap.size 87 #[.int .u64 xw, V] := Bk.grown (Bk.drew (Bk.drew (Bk.alloc (Bk.new wr 87 #[.int .u64 xw, V]) (.cells #[] 87)))) hgr1 (fun he => Nat.succ_ne_self _ (Option.some.inj he).symm))
             | (have hx1 : Bk w1 (wr.heap.size + 1) 87 #[.int .u64 xw, V] := Bk.grown (Bk.drew (Bk.drew (Bk.new1 wr (.cells #[] 87) 87 #[.int .u64 xw, V]))) hgr1 (fun he => Nat.succ_ne_self _ (Option.some.inj he)))
             | (have hx1 := hbk1)
             clear hgr1)
          | (refine step_append_rd rfl (.tmp 30) (.tmp 33) 85 rfl w.heap.size 87 i0 _ 2 32 Try.underlying85 hi hz0 hz1 hz2 rfl (by decide) v2 (0 + 1) (flatQ (([] : List QI).take 0) ++ [.int .u64 xw, V]) rfl (by repeat (first | with_reducible exact hown2 | with_reducible refine World.ownsRow.drew ?_ | with_reducible refine World.ownsRow.alloc ?_ _)) none (([] : List QI).length - 0) (0 - 0) (flatQ (([] : List QI).drop 0)) rfl (fun _ => rfl) rfl Rd.nil_ (fun u hu => by simp [flatQ] at hu) (by unfold maxLen; omega) (by omega) (by first | omega | (simp; omega)) ?_
             intro v3 w3 hown3 hgr3
             have hbe3 : Below w.heap.size w w3 := Below.grown (by repeat (first | with_reducible exact hbe2 | with_reducible refine Below.drew ?_ | with_reducible refine Below.alloc ?_ (by first | omega | (simp; omega)) _)) hgr3 (by first | omega | (simp; omega)) (fun g hg => (hown2.lt g hg).1)
             have hlen3 : 0 + 1 + (([] : List QI).length - 0) = ([] : List QI).length + 1 := by omega
             rw [hlen3] at hown3
             obtain ⟨A3, c3, rfl⟩ := own_form3 hown3
             clear hgr3)
          | (refine step_append_rd rfl (.tmp 27) (.tmp 29) 85 rfl w.heap.size 87 i0 _ 2 32 Try.underlying85 hi hz0 hz1 hz2 rfl (by decide) v1 0 (flatQ (([] : List QI).take 0)) rfl (by repeat (first | with_reducible exact hown1 | with_reducible refine World.ownsRow.drew ?_ | with_reducible refine World.ownsRow.alloc ?_ _)) (some ⟨_, 0, none⟩) 1 1 [.int .u64 xw, V] rfl (fun h => by cases h) rfl (bkRdQ (by repeat (first | with_reducible exact hx1 | (with_reducible refine Bk.newAt ?_; first | with_reducible rfl | (simp; all_goals fail)) | with_reducible refine Bk.drew ?_ | with_reducible refine Bk.alloc ?_ _))) HOx.out (by unfold maxLen; omega) (by omega) (by first | omega | (simp; omega)) ?_
             intro v2 w2 hown2 hgr2
             have hbe2 : Below w.heap.size w w2 := Below.grown (by repeat (first | with_reducible exact hbe1 | with_reducible refine Below.drew ?_ | with_reducible refine Below.alloc ?_ (by first | omega | (simp; omega)) _)) hgr2 (by first | omega | (simp; omega)) (fun g hg => (hown1.lt g hg).1)
             have hz2' := hbe2.size
             clear hgr2))
        all_goals go_wp2_with fail
        all_goals go_ret
        all_goals exact ⟨A3, c3, rfl, by show Rd _ _ _ _; rw [← HFin.out]; have := (own_rdN hown3).1; simpa [flatQ, qV] using this, (own_rdN hown3).2, (fun a ha => (hown3.lt a.block (by rw [ha]; rfl)).1), hbe3⟩
      · have own0 : ∀ W g, Bk W g 87 #[] → w.heap.size ≤ g → W.ownsRow w.heap.size 87 2 (.slice (some ⟨g, 0, none⟩) 0 0) 0 [] := fun W g hb hg => ⟨rfl, .inr ⟨g, 0, #[], rfl, hg, hb, Nat.le_refl _, Nat.zero_le _, rfl, rfl⟩⟩
        have HOwn := hide own0
        have rd1 : ∀ W, Below w.heap.size w W → Rd W W.heap.size (some ⟨b, o, none⟩) (flatQ (l.take k)) := fun W hW => ((H.out.take k).below hW).more hW.size
        have HRd1 := hide rd1
        have rd3 : ∀ W, Below w.heap.size w W → Rd W W.heap.size (if c = k then some ⟨b, o, none⟩ else some ⟨b, o + k * 2, none⟩) (flatQ (l.drop k)) := fun W hW => by
          split
          · rw [List.drop_eq_nil_of_le (by omega)]; exact Rd.nil_
          · exact ((H.out.drop hk).below hW).more hW.size
        have hn1 : (some ⟨b, o, none⟩) = (none : Option Addr) → c = 0 := fun h => by cases h
        have hn3 : (if c = k then some ⟨b, o, none⟩ else some ⟨b, o + k * 2, none⟩) = (none : Option Addr) → c - k = 0 := fun h => by split at h <;> cases h
        have HRd3 := hide rd3
        have HN1 := hide hn1
        have HN3 := hide hn3
        have HL1 := hide (show (flatQ (l.take k)).length = k * 2 by rw [flatQ_length, List.length_take]; congr 1; omega)
        have HL3 := hide (show (flatQ (l.drop k)).length = (l.length - k) * 2 by rw [flatQ_length, List.length_drop])
        have HO1 := hide (show ∀ u ∈ flatQ (l.take k), u.oneCell' = true from fun u hu => HO.out u (by rw [← List.take_append_drop k l, flatQ_append]; exact List.mem_append_left _ hu))
        have HO3 := hide (show ∀ u ∈ flatQ (l.drop k), u.oneCell' = true from fun u hu => HO.out u (by rw [← List.take_append_drop k l, flatQ_append]; exact List.mem_append_right _ hu))
        have HOx := hide (show ∀ u ∈ [Value.int .u64 (xw : Nat), V], u.oneCell' = true from fun u hu => by
          rcases List.mem_cons.1 hu with rfl | hu
          · rfl
          · rw [List.mem_singleton.1 hu]; exact hx1)
        clear own0 rd1 rd3 hn1 hn3 hx1
        go_wp2_with fail
        go_region
        go_wp2_with fail
        go_region_law (
          first
          | (refine step_append_rd rfl (.tmp 23) (.tmp 26) 85 rfl w.heap.size 87 i0 _ 2 32 Try.underlying85 hi hz0 hz1 hz2 rfl (by decide) _ 0 [] rfl (HOwn.out _ _ (by repeat (first | with_reducible exact hbk | (with_reducible refine Bk.newAt ?_; first | with_reducible rfl | (simp; all_goals fail)) | with_reducible refine Bk.drew ?_ | with_reducible refine Bk.alloc ?_ _)) (by omega)) (some ⟨b, o, none⟩) k c (flatQ (l.take k)) rfl HN1.out HL1.out (HRd1.out _ (by repeat (first | with_reducible exact hbe | with_reducible refine Below.drew ?_ | with_reducible refine Below.alloc ?_ (by first | omega | (simp; omega)) _))) HO1.out (by unfold maxLen; omega) (by omega) (by first | omega | (simp; omega)) ?_
             intro v1 w1 hown1 hgr1
             replace hgr1 : World.grownBy _ w1 (some _) := hgr1
             rw [Nat.zero_add, List.nil_append] at hown1
             have hbe1 : Below w.heap.size w w1 := Below.grown (by repeat (first | with_reducible exact hbe | with_reducible refine Below.drew ?_ | with_reducible refine Below.alloc ?_ (by first | omega | (simp; omega)) _)) hgr1 (by first | omega | (simp; omega)) (fun g hg => by have := Option.some.inj hg; first | omega | (simp at this; all_goals fail) | (simp at this; omega))
             have hz1' := hbe1.size
             have hbk1 : Bk w1 w.heap.size 87 #[.int .u64 xw, V] := Bk.grown (by repeat (first | with_reducible exact hbk | with_reducible refine Bk.drew ?_ | with_reducible refine Bk.alloc ?_ _)) hgr1 (by intro he; have := Option.some.inj he; first | omega | (simp at this; all_goals fail) | (simp at this; omega))
             obtain ⟨y0, y1⟩ := two_cells hbk1
             first
             | (have hx1 : Bk w1 wr.heap.size 87 #[.int .u64 xw, V] := Bk.grown (Bk.drew (Bk.drew (Bk.alloc (Bk.new wr 87 #[.int .u64 xw, V]) (.cells #[] 87)))) hgr1 (fun he => Nat.succ_ne_self _ (Option.some.inj he).symm))
             | (have hx1 : Bk w1 (wr.heap.size + 1) 87 #[.int .u64 xw, V] := Bk.grown (Bk.drew (Bk.drew (Bk.new1 wr (.cells #[] 87) 87 #[.int .u64 xw, V]))) hgr1 (fun he => Nat.succ_ne_self _ (Option.some.inj he)))
             | (have hx1 := hbk1)
             clear hgr1)
          | (refine step_append_rd rfl (.tmp 30) (.tmp 33) 85 rfl w.heap.size 87 i0 _ 2 32 Try.underlying85 hi hz0 hz1 hz2 rfl (by decide) v2 (k + 1) (flatQ (l.take k) ++ [.int .u64 xw, V]) rfl (by repeat (first | with_reducible exact hown2 | with_reducible refine World.ownsRow.drew ?_ | with_reducible refine World.ownsRow.alloc ?_ _)) (if c = k then some ⟨b, o, none⟩ else some ⟨b, o + k * 2, none⟩) (l.length - k) (c - k) (flatQ (l.drop k)) rfl HN3.out HL3.out (HRd3.out _ (by repeat (first | with_reducible exact hbe2 | with_reducible refine Below.drew ?_ | with_reducible refine Below.alloc ?_ (by first | omega | (simp; omega)) _))) HO3.out (by unfold maxLen; omega) (by omega) (by first | omega | (simp; omega)) ?_
             intro v3 w3 hown3 hgr3
             have hbe3 : Below w.heap.size w w3 := Below.grown (by repeat (first | with_reducible exact hbe2 | with_reducible refine Below.drew ?_ | with_reducible refine Below.alloc ?_ (by first | omega | (simp; omega)) _)) hgr3 (by first | omega | (simp; omega)) (fun g hg => (hown2.lt g hg).1)
             have hlen3 : k + 1 + (l.length - k) = l.length + 1 := by omega
             rw [hlen3] at hown3
             obtain ⟨A3, c3, rfl⟩ := own_form3 hown3
             clear hgr3)
          | (refine step_append_rd rfl (.tmp 27) (.tmp 29) 85 rfl w.heap.size 87 i0 _ 2 32 Try.underlying85 hi hz0 hz1 hz2 rfl (by decide) v1 k (flatQ (l.take k)) rfl (by repeat (first | with_reducible exact hown1 | with_reducible refine World.ownsRow.drew ?_ | with_reducible refine World.ownsRow.alloc ?_ _)) (some ⟨_, 0, none⟩) 1 1 [.int .u64 xw, V] rfl (fun h => by cases h) rfl (bkRdQ (by repeat (first | with_reducible exact hx1 | (with_reducible refine Bk.newAt ?_; first | with_reducible rfl | (simp; all_goals fail)) | with_reducible refine Bk.drew ?_ | with_reducible refine Bk.alloc ?_ _))) HOx.out (by unfold maxLen; omega) (by omega) (by first | omega | (simp; omega)) ?_
             intro v2 w2 hown2 hgr2
             have hbe2 : Below w.heap.size w w2 := Below.grown (by repeat (first | with_reducible exact hbe1 | with_reducible refine Below.drew ?_ | with_reducible refine Below.alloc ?_ (by first | omega | (simp; omega)) _)) hgr2 (by first | omega | (simp; omega)) (fun g hg => (hown1.lt g hg).1)
             have hz2' := hbe2.size
             clear hgr2))
        all_goals go_wp2_with fail
        all_goals go_ret
        all_goals exact ⟨A3, c3, rfl, by show Rd _ _ _ _; rw [← HFin.out]; have := (own_rdN hown3).1; simpa [flatQ, qV] using this, (own_rdN hown3).2, (fun a ha => (hown3.lt a.block (by rw [ha]; rfl)).1), hbe3⟩
    · obtain ⟨m, hm⟩ : ∃ m, k = m + 1 := ⟨k - 1, by omega⟩
      have hmI : (k : Int) - 1 = (m : Int) := by omega
      have hml : m < l.length := by omega
      have hk0n : decide (0 < k) = true := decide_eq_true (by omega)
      have hk00 : 0 < k := by omega
      have hmw : IntKind.i64.wrap (m : Int) = (m : Int) := IntWalk.i64_in _ ⟨by omega, by omega⟩
      have hk0 : decide ((0 : Int) < (k : Int)) = true := decide_eq_true (by omega)
      obtain ⟨y, hy⟩ : ∃ y, l[m]? = some y := ⟨l[m], by simp [hml]⟩
      obtain ⟨b, o, hAe, hb, c0, c1⟩ := H.out.at_ hy
      subst hAe
      have d0 := (hbe.cell (p := ⟨b, o + m * 2, none⟩) hb).trans c0
      have HY := hide hy
      have HM := hide hm
      clear c0 c1 hy hm
      by_cases g : xw < y.w
      · have dg : decide ((xw : Int) < (y.w : Int)) = true := decide_eq_true (by omega)
        go_wp2_with fail
        go_region
        go_wp2_with fail
        go_roundw
        case rel => exact ⟨m, by omega, by go_num, hide (fun j z hj hz => by
          rcases Nat.eq_or_lt_of_le hj with rfl | hj
          · rw [HY.out] at hz; cases hz; exact g
          · exact hgt.out j z (by have := HM.out; omega) hz), hbk.drew, hbe.drew⟩
        case measure => simp [intOf]; omega
      · have dg : decide ((xw : Int) < (y.w : Int)) = false := decide_eq_false (by omega)
        have hkw : IntKind.i64.wrap (k : Int) = (k : Int) := IntWalk.i64_in _ ⟨by omega, by omega⟩
        have hfin := insQ_at (x := ⟨xw, V, xv⟩) HS.out hk (fun z hz _ => by
          have e := HY.out
          have : k - 1 = m := by have := HM.out; omega
          rw [this, e] at hz
          cases hz
          show y.w ≤ xw
          omega) hgt.out
        have HFin := hide hfin
        have hkc : k ≤ c := by omega
        clear hfin
        have own0 : ∀ W g, Bk W g 87 #[] → w.heap.size ≤ g → W.ownsRow w.heap.size 87 2 (.slice (some ⟨g, 0, none⟩) 0 0) 0 [] := fun W g hb hg => ⟨rfl, .inr ⟨g, 0, #[], rfl, hg, hb, Nat.le_refl _, Nat.zero_le _, rfl, rfl⟩⟩
        have HOwn := hide own0
        have rd1 : ∀ W, Below w.heap.size w W → Rd W W.heap.size (some ⟨b, o, none⟩) (flatQ (l.take k)) := fun W hW => ((H.out.take k).below hW).more hW.size
        have HRd1 := hide rd1
        have rd3 : ∀ W, Below w.heap.size w W → Rd W W.heap.size (if c = k then some ⟨b, o, none⟩ else some ⟨b, o + k * 2, none⟩) (flatQ (l.drop k)) := fun W hW => by
          split
          · rw [List.drop_eq_nil_of_le (by omega)]; exact Rd.nil_
          · exact ((H.out.drop hk).below hW).more hW.size
        have hn1 : (some ⟨b, o, none⟩) = (none : Option Addr) → c = 0 := fun h => by cases h
        have hn3 : (if c = k then some ⟨b, o, none⟩ else some ⟨b, o + k * 2, none⟩) = (none : Option Addr) → c - k = 0 := fun h => by split at h <;> cases h
        have HRd3 := hide rd3
        have HN1 := hide hn1
        have HN3 := hide hn3
        have HL1 := hide (show (flatQ (l.take k)).length = k * 2 by rw [flatQ_length, List.length_take]; congr 1; omega)
        have HL3 := hide (show (flatQ (l.drop k)).length = (l.length - k) * 2 by rw [flatQ_length, List.length_drop])
        have HO1 := hide (show ∀ u ∈ flatQ (l.take k), u.oneCell' = true from fun u hu => HO.out u (by rw [← List.take_append_drop k l, flatQ_append]; exact List.mem_append_left _ hu))
        have HO3 := hide (show ∀ u ∈ flatQ (l.drop k), u.oneCell' = true from fun u hu => HO.out u (by rw [← List.take_append_drop k l, flatQ_append]; exact List.mem_append_right _ hu))
        have HOx := hide (show ∀ u ∈ [Value.int .u64 (xw : Nat), V], u.oneCell' = true from fun u hu => by
          rcases List.mem_cons.1 hu with rfl | hu
          · rfl
          · rw [List.mem_singleton.1 hu]; exact hx1)
        clear own0 rd1 rd3 hn1 hn3 hx1
        go_wp2_with fail
        go_region
        go_wp2_with fail
        go_region_law (
          first
          | (refine step_append_rd rfl (.tmp 23) (.tmp 26) 85 rfl w.heap.size 87 i0 _ 2 32 Try.underlying85 hi hz0 hz1 hz2 rfl (by decide) _ 0 [] rfl (HOwn.out _ _ (by repeat (first | with_reducible exact hbk | (with_reducible refine Bk.newAt ?_; first | with_reducible rfl | (simp; all_goals fail)) | with_reducible refine Bk.drew ?_ | with_reducible refine Bk.alloc ?_ _)) (by omega)) (some ⟨b, o, none⟩) k c (flatQ (l.take k)) rfl HN1.out HL1.out (HRd1.out _ (by repeat (first | with_reducible exact hbe | with_reducible refine Below.drew ?_ | with_reducible refine Below.alloc ?_ (by first | omega | (simp; omega)) _))) HO1.out (by unfold maxLen; omega) (by omega) (by first | omega | (simp; omega)) ?_
             intro v1 w1 hown1 hgr1
             replace hgr1 : World.grownBy _ w1 (some _) := hgr1
             rw [Nat.zero_add, List.nil_append] at hown1
             have hbe1 : Below w.heap.size w w1 := Below.grown (by repeat (first | with_reducible exact hbe | with_reducible refine Below.drew ?_ | with_reducible refine Below.alloc ?_ (by first | omega | (simp; omega)) _)) hgr1 (by first | omega | (simp; omega)) (fun g hg => by have := Option.some.inj hg; first | omega | (simp at this; all_goals fail) | (simp at this; omega))
             have hz1' := hbe1.size
             have hbk1 : Bk w1 w.heap.size 87 #[.int .u64 xw, V] := Bk.grown (by repeat (first | with_reducible exact hbk | with_reducible refine Bk.drew ?_ | with_reducible refine Bk.alloc ?_ _)) hgr1 (by intro he; have := Option.some.inj he; first | omega | (simp at this; all_goals fail) | (simp at this; omega))
             obtain ⟨y0, y1⟩ := two_cells hbk1
             first
             | (have hx1 : Bk w1 wr.heap.size 87 #[.int .u64 xw, V] := Bk.grown (Bk.drew (Bk.drew (Bk.alloc (Bk.new wr 87 #[.int .u64 xw, V]) (.cells #[] 87)))) hgr1 (fun he => Nat.succ_ne_self _ (Option.some.inj he).symm))
             | (have hx1 : Bk w1 (wr.heap.size + 1) 87 #[.int .u64 xw, V] := Bk.grown (Bk.drew (Bk.drew (Bk.new1 wr (.cells #[] 87) 87 #[.int .u64 xw, V]))) hgr1 (fun he => Nat.succ_ne_self _ (Option.some.inj he)))
             | (have hx1 := hbk1)
             clear hgr1)
          | (refine step_append_rd rfl (.tmp 30) (.tmp 33) 85 rfl w.heap.size 87 i0 _ 2 32 Try.underlying85 hi hz0 hz1 hz2 rfl (by decide) v2 (k + 1) (flatQ (l.take k) ++ [.int .u64 xw, V]) rfl (by repeat (first | with_reducible exact hown2 | with_reducible refine World.ownsRow.drew ?_ | with_reducible refine World.ownsRow.alloc ?_ _)) (if c = k then some ⟨b, o, none⟩ else some ⟨b, o + k * 2, none⟩) (l.length - k) (c - k) (flatQ (l.drop k)) rfl HN3.out HL3.out (HRd3.out _ (by repeat (first | with_reducible exact hbe2 | with_reducible refine Below.drew ?_ | with_reducible refine Below.alloc ?_ (by first | omega | (simp; omega)) _))) HO3.out (by unfold maxLen; omega) (by omega) (by first | omega | (simp; omega)) ?_
             intro v3 w3 hown3 hgr3
             have hbe3 : Below w.heap.size w w3 := Below.grown (by repeat (first | with_reducible exact hbe2 | with_reducible refine Below.drew ?_ | with_reducible refine Below.alloc ?_ (by first | omega | (simp; omega)) _)) hgr3 (by first | omega | (simp; omega)) (fun g hg => (hown2.lt g hg).1)
             have hlen3 : k + 1 + (l.length - k) = l.length + 1 := by omega
             rw [hlen3] at hown3
             obtain ⟨A3, c3, rfl⟩ := own_form3 hown3
             clear hgr3)
          | (refine step_append_rd rfl (.tmp 27) (.tmp 29) 85 rfl w.heap.size 87 i0 _ 2 32 Try.underlying85 hi hz0 hz1 hz2 rfl (by decide) v1 k (flatQ (l.take k)) rfl (by repeat (first | with_reducible exact hown1 | with_reducible refine World.ownsRow.drew ?_ | with_reducible refine World.ownsRow.alloc ?_ _)) (some ⟨_, 0, none⟩) 1 1 [.int .u64 xw, V] rfl (fun h => by cases h) rfl (bkRdQ (by repeat (first | with_reducible exact hx1 | (with_reducible refine Bk.newAt ?_; first | with_reducible rfl | (simp; all_goals fail)) | with_reducible refine Bk.drew ?_ | with_reducible refine Bk.alloc ?_ _))) HOx.out (by unfold maxLen; omega) (by omega) (by first | omega | (simp; omega)) ?_
             intro v2 w2 hown2 hgr2
             have hbe2 : Below w.heap.size w w2 := Below.grown (by repeat (first | with_reducible exact hbe1 | with_reducible refine Below.drew ?_ | with_reducible refine Below.alloc ?_ (by first | omega | (simp; omega)) _)) hgr2 (by first | omega | (simp; omega)) (fun g hg => (hown1.lt g hg).1)
             have hz2' := hbe2.size
             clear hgr2))
        all_goals go_wp2_with fail
        all_goals go_ret
        all_goals exact ⟨A3, c3, rfl, by show Rd _ _ _ _; rw [← HFin.out]; have := (own_rdN hown3).1; simpa [flatQ, qV] using this, (own_rdN hown3).2, (fun a ha => (hown3.lt a.block (by rw [ha]; rfl)).1), hbe3⟩
#print axioms put_any
end Go.Proofs.Ytggffiikfelbjaa
