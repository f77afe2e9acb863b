/- Walk: pack.next. -/
import Derived.Test.YtggffiikfelbjaaPackPlain
import Derived.Test.YtggffiikfelbjaaLeaves
namespace Go.Proofs.Ytggffiikfelbjaa
open Go.RowKit

theorem info_item : (Try.prog.info? 104).map (fun i => (i.zero, i.size, i.bytes)) = some (some (.agg #[.int .u64 0, .int .i64 0, .int .i64 0]), 3, 24) := by kernel_rfl
/-- What reads as a row of items. -/
def RdI (w : World) (B : Nat) (A : Option Addr) (l : List It) : Prop := Rd w B A (flatV l)
theorem RdI.at_ {w : World} {B : Nat} {A : Option Addr} {l : List It} (h : RdI w B A l) {j : Nat} {x : It} (hx : l[j]? = some x) :
    ∃ b o, A = some ⟨b, o, none⟩ ∧ b < B ∧ w.cell? ⟨b, o + j * 3, none⟩ = some (.int .u64 x.w) ∧ w.cell? ⟨b, o + j * 3 + 1, none⟩ = some (.int .i64 x.leaf) ∧ w.cell? ⟨b, o + j * 3 + 2, none⟩ = some (.int .i64 x.first) := by
  obtain ⟨h0, h1, h2⟩ := flatV_get hx
  obtain ⟨b, o, rfl, hb, c0⟩ := h _ _ h0
  obtain ⟨b1, o1, e1, _, c1⟩ := h _ _ h1
  obtain ⟨b2, o2, e2, _, c2⟩ := h _ _ h2
  simp only [Option.some.injEq, Addr.mk.injEq, and_true] at e1 e2
  obtain ⟨rfl, rfl⟩ := e1
  obtain ⟨rfl, rfl⟩ := e2
  exact ⟨b, o, rfl, hb, c0, c1, c2⟩
theorem cells_new (w : World) (xs : List Value) (t : TypeId) : ∀ j u, xs[j]? = some u → (w.alloc (.cells xs.toArray t)).cell? ((⟨w.heap.size, 0, none⟩ : Addr).add j) = some u := by
  intro j u hu
  rw [Addr.add_lit, Nat.zero_add, (Bk.new w t xs.toArray).cell j, List.getElem?_toArray]
  exact hu
theorem leafIts_drop {lw : List Nat} {k x : Nat} (h : lw[k]? = some x) : leafIts k (lw.drop k) = ⟨x, k, 0⟩ :: leafIts (k + 1) (lw.drop (k + 1)) := by
  obtain ⟨hk, rfl⟩ := List.getElem?_eq_some_iff.1 h
  rw [List.drop_eq_getElem_cons hk, leafIts]
theorem pkgs_drop {lv : List It} {i : Nat} {a b : It} (h : lv[i]? = some a) (h2 : lv[i + 1]? = some b) : pkgs i (lv.drop i) = ⟨a.w + b.w, -1, i⟩ :: pkgs (i + 2) (lv.drop (i + 2)) := by
  obtain ⟨hk, rfl⟩ := List.getElem?_eq_some_iff.1 h
  obtain ⟨hk2, rfl⟩ := List.getElem?_eq_some_iff.1 h2
  rw [List.drop_eq_getElem_cons hk, List.drop_eq_getElem_cons hk2, pkgs]
theorem pkgs_end {lv : List It} {i : Nat} (h : lv.length ≤ i + 1) : pkgs i (lv.drop i) = [] := by
  cases hd : lv.drop i with
  | nil => rfl
  | cons a r =>
    have := congrArg List.length hd
    rw [List.length_drop, List.length_cons] at this
    have hr : r = [] := List.eq_nil_of_length_eq_zero (by omega)
    rw [hr]; rfl
theorem own_form3 {w : World} {base e size n : Nat} {v : Value} {xs : List Value} (h : w.ownsRow base e size v n xs) : ∃ A c, v = .slice A n c := by
  rcases h.2 with ⟨hv, hn⟩ | ⟨g, cap, cur, hv, _⟩
  · exact ⟨none, 0, by rw [hv, hn]⟩
  · exact ⟨_, cap, hv⟩
/-- The next level's promise. -/
def NextLP (T : List It) (w : World) (e : Ending) (w' : World) : Prop :=
  ∃ A c, e = .returned (.slice A T.length c) ∧ w'.ownsRow w.heap.size 104 3 (.slice A T.length c) T.length (flatV T) ∧ Below w.heap.size w w'

set_option maxRecDepth 100000 in
set_option maxHeartbeats 4000000 in
theorem next_lv (A O V : Option Addr) (ws : List Int) (ord : List Nat) (lv : List It) (ca co cv : Nat) (w : World) (hA : Rd w w.heap.size A (ws.map (.int .u64))) (hO : Rd w w.heap.size O (ord.map fun (x : Nat) => Value.int .i64 x)) (hV : RdI w w.heap.size V lv)
    (hw : ws.length ≤ 512) (ho : ord.length ≤ 512) (hv : lv.length ≤ 1024) (hord : ∀ x ∈ ord, x < ws.length) (hws : ∀ x ∈ ws, 0 ≤ x ∧ x ≤ 1099511627776) (hlv : ∀ x ∈ lv, x.w ≤ 1152921504606846976) :
    Calls Try.prog 52 #[.slice A ws.length ca, .slice O ord.length co, .slice V lv.length cv] w (NextLP (nxtL (ord.map fun i => (ws.getD i 0).toNat) lv) w) := by
  obtain ⟨i0, hi, hz0, hz1, hz2⟩ := info_parts info_item
  have HA := hide hA
  have HO := hide hO
  have HV := hide hV
  have HW := hide (And.intro hord (And.intro hws hlv))
  clear hA hO hV hord hws hlv
  obtain ⟨lw, hlw⟩ : ∃ lw, lw = ord.map fun i => (ws.getD i 0).toNat := ⟨_, rfl⟩
  rw [← hlw]
  have hll : lw.length = ord.length := by rw [hlw, List.length_map]
  obtain ⟨T, hT⟩ : ∃ T, T = nxtL lw lv := ⟨_, rfl⟩
  rw [← hT]
  have hTl : T.length = ord.length + lv.length / 2 := by rw [hT, nxtL_length, hll]
  have HLw := hide hlw
  have HLl := hide hll
  have HT := hide hT
  have HTl := hide hTl
  have leaf : ∀ k, k < ord.length → ∃ (bo oo ba oa l x : Nat), O = some ⟨bo, oo, none⟩ ∧ A = some ⟨ba, oa, none⟩ ∧ bo < w.heap.size ∧ ba < w.heap.size ∧ l < ws.length ∧ x ≤ 1099511627776 ∧ Hid (lw[k]? = some x) ∧ w.cell? ⟨bo, oo + k, none⟩ = some (.int .i64 l) ∧ w.cell? ⟨ba, oa + l, none⟩ = some (.int .u64 x) := by
    intro k hk
    obtain ⟨bo, oo, rfl, hbo, hco⟩ := HO.out k (.int .i64 (ord[k] : Nat)) (by simp [hk])
    have hl := HW.out.1 ord[k] (List.getElem_mem hk)
    obtain ⟨ba, oa, z, rfl, hba, hz, hca⟩ := HA.out.int hl
    have hz2 := HW.out.2.1 z (List.mem_of_getElem? hz)
    obtain ⟨x, rfl⟩ := Int.eq_ofNat_of_zero_le hz2.1
    refine ⟨bo, oo, ba, oa, ord[k], x, rfl, rfl, hbo, hba, hl, by omega, hide ?_, hco, hca⟩
    rw [HLw.out, List.getElem?_map, List.getElem?_eq_getElem hk]
    show some (ws.getD ord[k] 0).toNat = some x
    rw [List.getD_eq_getElem?_getD, hz]; rfl
  have HLeaf := hide leaf
  clear leaf hlw hll hT hTl
  go_enter Try.func52, Try.ntmps52
  go_wp2_with (refine wpList_make_own _ rfl _ _ 81 rfl w.heap.size 104 i0 _ 3 Try.underlying81 hi hz0 hz1 .i64 .i64 _ (ord.length + lv.length / 2) rfl rfl (by omega) (by rw [hz2]; omega) (by unfold maxLen; omega) (Nat.le_refl _) ?_; intro w1 hown1 hgr1)
  have hbe1 : Below w.heap.size w w1 := (Below.refl _ _).grown hgr1 (Nat.le_refl _) (fun g hg => by cases hg)
  clear hgr1
  go_loopw [7, 8, 9] (fun v vk vi wr => ∃ (k i : Nat) (E : List It), vk = .int .i64 k ∧ vi = .int .i64 i ∧ k ≤ ord.length ∧ i ≤ lv.length + 1 ∧ Hid (E ++ mrg (leafIts k (lw.drop k)) (pkgs i (lv.drop i)) = T) ∧ E.length ≤ 2000 ∧ Hid (wr.ownsRow w.heap.size 104 3 v E.length (flatV E)) ∧ Below w.heap.size w wr) (fun _ _ i _ => lv.length + 1 - (intOf i).toNat)
  case atStart => exact ⟨0, 0, [], rfl, rfl, by omega, by omega, hide (by rw [HT.out]; rfl), by simp, hide hown1, hbe1⟩
  case round =>
    clear hown1 hbe1
    obtain ⟨k, i, E, rfl, rfl, hk, hi2, hE, hEl, hown, hbe⟩ := hrel
    by_cases hlt : i + 1 < lv.length
    · have dlt : decide ((i : Int) + 1 < (lv.length : Int)) = true := decide_eq_true (by omega)
      obtain ⟨a, ha⟩ : ∃ a, lv[i]? = some a := ⟨lv[i]'(by omega), by simp⟩
      obtain ⟨b, hb⟩ : ∃ b, lv[i + 1]? = some b := ⟨lv[i + 1]'(by omega), by simp⟩
      obtain ⟨bv, ov, hVe, hbv, ca0, _, _⟩ := HV.out.at_ ha
      subst hVe
      obtain ⟨bv2, ov2, hVe2, hbv2, cb0, _, _⟩ := HV.out.at_ hb
      simp only [Option.some.injEq, Addr.mk.injEq, and_true] at hVe2
      obtain ⟨rfl, rfl⟩ := hVe2
      have c1 := (hbe.cell (p := ⟨bv, ov + i * 3, none⟩) hbv).trans ca0
      have c2 := (hbe.cell (p := ⟨bv, ov + (i + 1) * 3, none⟩) hbv).trans cb0
      have w1 := HW.out.2.2 a (List.mem_of_getElem? ha)
      have w2 := HW.out.2.2 b (List.mem_of_getElem? hb)
      have hpd := pkgs_drop ha hb
      obtain ⟨W, hWe⟩ : ∃ W, W = a.w + b.w := ⟨_, rfl⟩
      have hWI : (a.w : Int) + (b.w : Int) = (W : Int) := by omega
      have hWb : W ≤ 2305843009213693952 := by omega
      have hn := hE.out
      rw [hpd, ← hWe] at hn
      have HN := hide hn
      clear ca0 cb0 ha hb hpd hWe hn hE
      go_wp2_with fail
      go_region
      go_wp2_with fail
      go_loopw [7, 8] (fun v vk wr => ∃ (k : Nat) (E : List It), vk = .int .i64 k ∧ k ≤ ord.length ∧ Hid (E ++ mrg (leafIts k (lw.drop k)) (⟨W, -1, i⟩ :: pkgs (i + 2) (lv.drop (i + 2))) = T) ∧ E.length ≤ 2000 ∧ Hid (wr.ownsRow w.heap.size 104 3 v E.length (flatV E)) ∧ Below w.heap.size w wr) (fun _ k _ => ord.length - (intOf k).toNat)
      case atStart => exact ⟨k, E, rfl, hk, HN, hEl, hown, below_drewN hbe _⟩
      case round =>
        clear hown hbe HN hEl
        obtain ⟨k, E, rfl, hk, hE, hEl, hown, hbe⟩ := hrel
        have hsz := hbe.size
        have hEt : E.length ≤ 1100 := by
          have h1 := congrArg List.length hE.out
          rw [List.length_append, HTl.out] at h1; omega
        have fin : ∀ (v' : Value) (w2 : World), (k < ord.length → ∃ x, lw[k]? = some x ∧ ¬ x ≤ W) → (E ++ [(⟨W, -1, i⟩ : It)]) ++ mrg (leafIts k (lw.drop k)) (pkgs (i + 2) (lv.drop (i + 2))) = T := by
          intro v' w2 hstop
          have h := hE.out
          rw [← h, List.append_assoc]
          congr 1
          by_cases hkl : k < ord.length
          · obtain ⟨x, hx, hgt⟩ := hstop hkl
            rw [leafIts_drop hx, mrg_gt hgt]; rfl
          · rw [List.drop_eq_nil_of_le (by have := HLl.out; omega), leafIts, mrg, mrg]; rfl
        have HFin := hide fin
        clear fin
        by_cases hkl : k < ord.length
        · have dkl : decide ((k : Int) < (ord.length : Int)) = true := decide_eq_true (by omega)
          obtain ⟨bo, oo, ba, oa, l, x, hOe, hAe, hbo, hba, hl, hx, hlx, co0, ca0⟩ := HLeaf.out k hkl
          subst hOe hAe
          have c3 := (hbe.cell (p := ⟨bo, oo + k, none⟩) hbo).trans co0
          have c4 := (hbe.cell (p := ⟨ba, oa + l, none⟩) hba).trans ca0
          clear co0 ca0
          by_cases hxW : x ≤ W
          · have dx : decide ((x : Int) ≤ (W : Int)) = true := decide_eq_true (by omega)
            have hn := hE.out
            rw [leafIts_drop hlx.out, mrg_le (show (⟨x, k, 0⟩ : It).w ≤ (⟨W, -1, i⟩ : It).w from hxW)] at hn
            have HN := hide hn
            clear hn hE
            go_wp2_with (at_builtin; refine wpList_append_own _ rfl (.tmp 52) (.tmp 62) 81 rfl w.heap.size 104 i0 _ 3 24 Try.underlying81 hi hz0 hz1 hz2 rfl (by decide) _ _ _ rfl (hown.out.alloc _) ⟨wr.heap.size, 0, none⟩ 1 1 [.int .u64 x, .int .i64 k, .int .i64 0] rfl rfl (cells_new _ _ _) (by intro u hu; simp at hu; rcases hu with rfl | rfl | rfl <;> rfl) (by unfold maxLen; omega) (by omega) (by simp; omega) ?_; intro v' w2 hown2 hgr2 _)
            have hbe2 := ((hbe.alloc hbe.size (.cells #[.int .u64 x, .int .i64 k, .int .i64 0] 104))).grown hgr2 (by simp; have := hbe.size; omega) (fun g hg => ((hown.out.alloc (.cells #[.int .u64 x, .int .i64 k, .int .i64 0] 104)).lt g hg).1)
            go_roundw
            case rel => exact ⟨k + 1, E ++ [⟨x, k, 0⟩], by go_num, by omega, hide (by have := HN.out; simpa using this), by simp; omega, hide (by rw [flatV_append, List.length_append]; exact hown2), hbe2⟩
            case measure => simp [intOf]; omega
          · have dx : decide ((x : Int) ≤ (W : Int)) = false := decide_eq_false (by omega)
            have hn := HFin.out .nilIface w (fun _ => ⟨x, hlx.out, hxW⟩)
            have HN := hide hn
            clear hn hE
            go_wp2_with (at_builtin; refine wpList_append_own _ rfl (.tmp 66) (.tmp 70) 81 rfl w.heap.size 104 i0 _ 3 24 Try.underlying81 hi hz0 hz1 hz2 rfl (by decide) _ _ _ rfl (hown.out.alloc _) ⟨wr.heap.size, 0, none⟩ 1 1 [.int .u64 W, .int .i64 (-1), .int .i64 i] rfl rfl (cells_new _ _ _) (by intro u hu; simp at hu; rcases hu with rfl | rfl | rfl <;> rfl) (by unfold maxLen; omega) (by omega) (by simp; omega) ?_; intro v' w2 hown2 hgr2 _)
            have hbe2 := ((hbe.alloc hbe.size (.cells #[.int .u64 W, .int .i64 (-1), .int .i64 i] 104))).grown hgr2 (by simp; have := hbe.size; omega) (fun g hg => ((hown.out.alloc (.cells #[.int .u64 W, .int .i64 (-1), .int .i64 i] 104)).lt g hg).1)
            go_roundw
            case rel => exact ⟨k, i + 2, E ++ [⟨W, -1, i⟩], rfl, by go_num, by omega, by omega, HN, by simp; omega, hide (by rw [flatV_append, List.length_append]; exact hown2), hbe2⟩
            case measure => simp [intOf]; omega
        · have dkl : decide ((k : Int) < (ord.length : Int)) = false := decide_eq_false (by omega)
          have hn := HFin.out .nilIface w (fun h => absurd h hkl)
          have HN := hide hn
          clear hn hE
          go_wp2_with (at_builtin; refine wpList_append_own _ rfl (.tmp 66) (.tmp 70) 81 rfl w.heap.size 104 i0 _ 3 24 Try.underlying81 hi hz0 hz1 hz2 rfl (by decide) _ _ _ rfl (hown.out.alloc _) ⟨wr.heap.size, 0, none⟩ 1 1 [.int .u64 W, .int .i64 (-1), .int .i64 i] rfl rfl (cells_new _ _ _) (by intro u hu; simp at hu; rcases hu with rfl | rfl | rfl <;> rfl) (by unfold maxLen; omega) (by omega) (by simp; omega) ?_; intro v' w2 hown2 hgr2 _)
          have hbe2 := ((hbe.alloc hbe.size (.cells #[.int .u64 W, .int .i64 (-1), .int .i64 i] 104))).grown hgr2 (by simp; have := hbe.size; omega) (fun g hg => ((hown.out.alloc (.cells #[.int .u64 W, .int .i64 (-1), .int .i64 i] 104)).lt g hg).1)
          go_roundw
          case rel => exact ⟨k, i + 2, E ++ [⟨W, -1, i⟩], rfl, by go_num, by omega, by omega, HN, by simp; omega, hide (by rw [flatV_append, List.length_append]; exact hown2), hbe2⟩
          case measure => simp [intOf]; omega
    · have dlt : decide ((i : Int) + 1 < (lv.length : Int)) = false := decide_eq_false (by omega)
      have hn := hE.out
      rw [pkgs_end (by omega), mrg_nil] at hn
      have HN := hide hn
      clear hn hE
      go_wp2_with fail
      go_loopw [7, 8] (fun v vk wr => ∃ (k : Nat) (E : List It), vk = .int .i64 k ∧ k ≤ ord.length ∧ Hid (E ++ leafIts k (lw.drop k) = T) ∧ E.length ≤ 2000 ∧ Hid (wr.ownsRow w.heap.size 104 3 v E.length (flatV E)) ∧ Below w.heap.size w wr) (fun _ k _ => ord.length - (intOf k).toNat)
      case atStart => exact ⟨k, E, rfl, hk, HN, hEl, hown, hbe⟩
      case round =>
        clear hown hbe HN hEl
        obtain ⟨k, E, rfl, hk, hE, hEl, hown, hbe⟩ := hrel
        have hsz := hbe.size
        by_cases hkl : k < ord.length
        · have dkl : decide ((k : Int) < (ord.length : Int)) = true := decide_eq_true (by omega)
          obtain ⟨bo, oo, ba, oa, l, x, hOe, hAe, hbo, hba, hl, hx, hlx, co0, ca0⟩ := HLeaf.out k hkl
          subst hOe hAe
          have c3 := (hbe.cell (p := ⟨bo, oo + k, none⟩) hbo).trans co0
          have c4 := (hbe.cell (p := ⟨ba, oa + l, none⟩) hba).trans ca0
          have hEt : E.length ≤ 1100 := by
            have h1 := congrArg List.length hE.out
            rw [List.length_append, HTl.out] at h1; omega
          have hn := hE.out
          rw [leafIts_drop hlx.out] at hn
          have HN := hide hn
          clear co0 ca0 hn hE
          go_wp2_with (at_builtin; refine wpList_append_own _ rfl (.tmp 78) (.tmp 88) 81 rfl w.heap.size 104 i0 _ 3 24 Try.underlying81 hi hz0 hz1 hz2 rfl (by decide) _ _ _ rfl (hown.out.alloc _) ⟨wr.heap.size, 0, none⟩ 1 1 [.int .u64 x, .int .i64 k, .int .i64 0] rfl rfl (cells_new _ _ _) (by intro u hu; simp at hu; rcases hu with rfl | rfl | rfl <;> rfl) (by unfold maxLen; omega) (by omega) (by simp; omega) ?_; intro v' w2 hown2 hgr2 _)
          have hbe2 := ((hbe.alloc hbe.size (.cells #[.int .u64 x, .int .i64 k, .int .i64 0] 104))).grown hgr2 (by simp; have := hbe.size; omega) (fun g hg => ((hown.out.alloc (.cells #[.int .u64 x, .int .i64 k, .int .i64 0] 104)).lt g hg).1)
          go_roundw
          case rel => exact ⟨k + 1, E ++ [⟨x, k, 0⟩], by go_num, by omega, hide (by have := HN.out; simpa using this), by simp; omega, hide (by rw [flatV_append, List.length_append]; exact hown2), hbe2⟩
          case measure => simp [intOf]; omega
        · have dkl : decide ((k : Int) < (ord.length : Int)) = false := decide_eq_false (by omega)
          have hfin : E = T := by
            have := hE.out
            rwa [List.drop_eq_nil_of_le (by have := HLl.out; omega), leafIts, List.append_nil] at this
          subst hfin
          have hf := own_form3 hown.out
          have HO3 := hide hown.out
          obtain ⟨A', c', rfl⟩ := hf
          go_wp2_with fail
          go_ret
          exact ⟨A', c', rfl, HO3.out, hbe⟩
#print axioms next_lv
end Go.Proofs.Ytggffiikfelbjaa
