/- Walk: pack.Lengths. -/
import Derived.Test.YtggffiikfelbjaaLenPlain
namespace Go.Proofs.Ytggffiikfelbjaa
open Go.RowKit

theorem count_any (b off cap m : Nat) (lvs : List (List It)) (vs : List Value) (w : World) (hb : b < w.heap.size) (hv : ∀ j v, vs[j]? = some v → w.cell? ⟨b, off + j, none⟩ = some v) (hlv : LvV w w.heap.size lvs vs) (hm : m ≤ 512) (hm2 : 2 ≤ m) (hk : lvs.length ≤ 15)
    (hll : ∀ l ∈ lvs, l.length ≤ 1024 ∧ ∀ x ∈ l, x.leaf < (m : Int)) (hst : ∀ k l, lvs.reverse[k]? = some l → (stC m (lvs.reverse.take k)).1 ≤ l.length) :
    Calls Try.prog 53 #[.slice (some ⟨b, off, none⟩) vs.length cap, .int .i64 m] w fun e w' => ∃ A c, e = .returned (.slice A m c) ∧ Rd w' w'.heap.size A ((stC m lvs.reverse).2.map fun (x : Nat) => Value.int .i64 x) ∧ (∀ a, A = some a → w.heap.size ≤ a.block) ∧ Below w.heap.size w w' :=
  callsIn_wide.1 (count_in Fence.wide 3 trivial trivial trivial rfl (Nat.le_refl _) b off cap m lvs vs w hb hv hlv hm hm2 hk hll hst)
theorem bits_any (lim : Int) (w : World) : Calls Try.prog 50 #[.int .i64 lim] w fun e w' => e = .returned (.bool (decide (1 ≤ lim ∧ lim ≤ 15))) ∧ w' = w := by
  obtain ⟨v, hv⟩ : ∃ v, v = decide (1 ≤ lim ∧ lim ≤ 15) := ⟨_, rfl⟩
  rw [← hv]
  have HV := hide hv
  clear hv
  go_enter Try.func50, Try.ntmps50
  go_wp2
  all_goals
    go_ret
    refine ⟨ret_bool ?_, rfl⟩
    rw [HV.out]
    first
      | (symm; apply decide_eq_true; constructor <;> omega)
      | (symm; apply decide_eq_false; omega)
      | (rw [decide_eq_decide]; omega)
theorem own_apart {w : World} {b1 b2 e1 e2 s1 s2 n1 n2 : Nat} {v1 v2 : Value} {x1 x2 : List Value} (h1 : w.ownsRow b1 e1 s1 v1 n1 x1) (h2 : w.ownsRow b2 e2 s2 v2 n2 x2) (hne : e1 ≠ e2) : v1.ownBlock = none ∨ v1.ownBlock ≠ v2.ownBlock := by
  rcases h1.2 with ⟨rfl, _⟩ | ⟨g, cap, cur, rfl, _, hg, _⟩
  · exact .inl rfl
  · refine .inr fun e => ?_
    rcases h2.2 with ⟨rfl, _⟩ | ⟨g', cap', cur', rfl, _, hg', _⟩
    · cases e
    · obtain rfl : g = g' := by simpa [Value.ownBlock] using e
      rw [hg] at hg'
      simp only [Option.some.injEq, Obj.cells.injEq] at hg'
      exact hne hg'.2.1
theorem own_rdN {w : World} {base e size n c m : Nat} {A : Option Addr} {xs : List Value} (h : w.ownsRow base e size (.slice A n c) m xs) : Rd w w.heap.size A xs ∧ n ≤ c := by
  rcases h.2 with ⟨hv, hn⟩ | ⟨g, cap, cur, hv, hb, hg, hc, _⟩
  · have h1 := h.1
    rw [hn] at h1
    have hx : xs = [] := List.eq_nil_of_length_eq_zero (by simpa using h1)
    simp only [Value.slice.injEq] at hv
    refine ⟨by rw [hx]; exact Rd.nil_, by omega⟩
  · simp only [Value.slice.injEq] at hv
    obtain ⟨rfl, rfl, rfl⟩ := hv
    refine ⟨fun i u hu => ?_, hc⟩
    refine ⟨g, 0, rfl, (Array.getElem?_eq_some_iff.1 hg).1, ?_⟩
    have := h.cells (g := g) rfl i u hu
    rw [Addr.add_lit] at this
    exact this
/-- The levels, each in a row of the call's own. -/
def LvO (w : World) (base : Nat) (lvs : List (List It)) (vs : List Value) : Prop :=
  vs.length = lvs.length ∧ ∀ (j : Nat) l, lvs[j]? = some l → ∃ A c, vs[j]? = some (.slice A l.length c) ∧ w.ownsRow base 104 3 (.slice A l.length c) l.length (flatV l)
section
variable {w w' : World} {base : Nat} {lvs : List (List It)} {vs : List Value}
theorem LvO.map (h : LvO w base lvs vs) (f : ∀ {v : Value} {n : Nat} {xs : List Value}, w.ownsRow base 104 3 v n xs → w'.ownsRow base 104 3 v n xs) : LvO w' base lvs vs :=
  ⟨h.1, fun j l hl => by obtain ⟨A, c, h1, h2⟩ := h.2 j l hl; exact ⟨A, c, h1, f h2⟩⟩
theorem LvO.alloc (h : LvO w base lvs vs) (o : Obj) : LvO (w.alloc o) base lvs vs := h.map fun k => k.alloc o
theorem LvO.below (h : LvO w base lvs vs) (hb : Below w.heap.size w w') : LvO w' base lvs vs := h.map fun k => own_fr k (Fr.below hb (fun _ => False)) (fun _ _ h => h)
theorem LvO.grown {b2 s2 n2 : Nat} {v2 : Value} {x2 : List Value} (h : LvO w base lvs vs) (h2 : w.ownsRow b2 81 s2 v2 n2 x2) (hg : w.grownBy w' v2.ownBlock) : LvO w' base lvs vs :=
  h.map fun k => k.kept hg (own_apart k h2 (by decide))
theorem LvO.snoc (h : LvO w base lvs vs) {A : Option Addr} {c : Nat} {l : List It} (hn : w.ownsRow base 104 3 (.slice A l.length c) l.length (flatV l)) : LvO w base (lvs ++ [l]) (vs ++ [.slice A l.length c]) := by
  refine ⟨by simp [h.1], fun j l' hl => ?_⟩
  rcases Nat.lt_or_ge j lvs.length with hj | hj
  · rw [List.getElem?_append_left hj] at hl
    obtain ⟨A', c', h1, h2⟩ := h.2 j l' hl
    exact ⟨A', c', by rw [List.getElem?_append_left (by rw [h.1]; exact hj)]; exact h1, h2⟩
  · rw [List.getElem?_append_right hj] at hl
    have hj0 : j - lvs.length = 0 := by
      rcases Nat.eq_zero_or_pos (j - lvs.length) with e | e
      · exact e
      · rw [List.getElem?_eq_none (by simp; omega)] at hl; cases hl
    rw [hj0] at hl
    simp at hl
    subst hl
    exact ⟨A, c, by rw [List.getElem?_append_right (by rw [h.1]; exact hj), h.1, hj0]; rfl, hn⟩
theorem LvO.reads (h : LvO w base lvs vs) : LvV w w.heap.size lvs vs :=
  ⟨h.1, fun j l hl => by obtain ⟨A, c, h1, h2⟩ := h.2 j l hl; have h3 := own_rdN h2; exact ⟨A, c, h1, h3.2, h3.1⟩⟩
end
theorem info_items : (Try.prog.info? 81).map (fun i => (i.zero, i.size, i.bytes)) = some (some (.slice none 0 0), 1, 24) := by kernel_rfl
theorem own_some {w : World} {base e size n : Nat} {v : Value} {xs : List Value} (h : w.ownsRow base e size v n xs) (hn : 0 < n) : ∃ g c, v = .slice (some ⟨g, 0, none⟩) n c ∧ base ≤ g ∧ g < w.heap.size := by
  rcases h.2 with ⟨_, hn'⟩ | ⟨g, cap, cur, hv, hb, hg, _⟩
  · omega
  · exact ⟨g, cap, hv, hb, (Array.getElem?_eq_some_iff.1 hg).1⟩
/-- What Lengths answers. -/
def LenP (ws : List Int) (lim : Int) (w : World) (e : Ending) (w' : World) : Prop :=
  Below w.heap.size w w' ∧
  ((packW ws lim = 0 ∧ ∃ A c, e = .returned (.tuple #[.slice A ws.length c, .int .i64 0]) ∧ Rd w' w'.heap.size A ((packL ws lim.toNat).map fun (x : Nat) => Value.int .i64 x) ∧ (∀ a, A = some a → w.heap.size ≤ a.block)) ∨
   (packW ws lim ≠ 0 ∧ e = .returned (.tuple #[.slice none 0 0, .int .i64 (packW ws lim)])))
theorem LenP.bad {ws : List Int} {lim k : Int} {w w' : World} (h : packW ws lim = k) (hk : k ≠ 0) (hb : Below w.heap.size w w') : LenP ws lim w (.returned (.tuple #[.slice none 0 0, .int .i64 k])) w' :=
  ⟨hb, .inr ⟨by rw [h]; exact hk, by rw [h]⟩⟩
theorem bk_nats {w : World} {g : Nat} {t : TypeId} {l : List Nat} (h : Bk w g t ((l.map fun (x : Nat) => Value.int .i64 x)).toArray) : Rd w w.heap.size (some ⟨g, 0, none⟩) (l.map fun (x : Nat) => Value.int .i64 x) := fun i u hu =>
  ⟨g, 0, rfl, h.lt, by rw [Nat.zero_add, h.cell i, List.getElem?_toArray]; exact hu⟩
theorem zeros_made (n : Nat) : ((List.replicate n 0).map fun (x : Nat) => Value.int .i64 x).toArray = madeCells #[.int .i64 0] n := by
  apply Array.ext
  · simp [size_madeCells]
  · intro i h1 h2; simp [madeCells, Nat.mod_one]

theorem one_made (n o : Nat) : (madeCells #[.int .i64 0] n).setIfInBounds o (.int .i64 1) = (((List.replicate n 0).set o 1).map fun (x : Nat) => Value.int .i64 x).toArray := by
  rw [← zeros_made, List.setIfInBounds_toArray, List.map_set]; rfl
set_option maxRecDepth 100000 in
set_option maxHeartbeats 8000000 in
theorem lengths_any (A : Option Addr) (ws : List Int) (ca : Nat) (lim : Int) (w : World) (hA : Rd w w.heap.size A (ws.map (.int .u64))) (hla : ws.length ≤ 9223372036854775807) (hws : ∀ x ∈ ws, 0 ≤ x) (hlim : I64 lim) :
    Calls Try.prog 26 #[.slice A ws.length ca, .int .i64 lim] w (LenP ws lim w) := by
  obtain ⟨l1, l2⟩ := hlim
  have al := alphabet_any A ws ca w hA hla
  have bt := fun W => bits_any lim W
  have HA := hide hA
  by_cases ha : alphaB ws = true
  · obtain ⟨h512, hmax⟩ := alphaB_at ha
    rw [ha] at al
    have HAl := hide al
    by_cases hl : 1 ≤ lim ∧ lim ≤ 15
    · rw [decide_eq_true hl] at bt
      have HBt := hide bt
      obtain ⟨L, rfl⟩ := Int.eq_ofNat_of_zero_le (show 0 ≤ lim by omega)
      have g1 : 1 ≤ L := by omega
      have g2 : L ≤ 15 := by omega
      have hpow : 2 ^ L ≤ 2 ^ 15 := Nat.pow_le_pow_right (by omega) g2
      obtain ⟨P, hP⟩ : ∃ P : Nat, 2 ^ L = P := ⟨_, rfl⟩
      have hP' : (2 : Int) ^ L = P := by rw [← hP, Int.natCast_pow]; rfl
      rw [hP] at hpow
      obtain ⟨N, hN⟩ : ∃ N, N = (ordL ws).length := ⟨_, rfl⟩
      have hW : packW ws L = if P < N then 8 else 0 := by
        unfold packW
        rw [if_pos ⟨ha, hl.1, hl.2⟩, Int.toNat_natCast, hP, ← hN]
      have hNl : N ≤ ws.length := by rw [hN]; exact ordL_length ws
      have lv := leaves_any A ws ca w hA h512 hws
      rw [← hN] at lv
      have hmk := run_make_row' (P := Try.prog) 22 3 (.int .i64 0) 8 Try.underlying22 info_int rfl .i64 .i64 ws.length (by omega) (by omega)
      have HLv := hide lv
      have HW := hide hW
      have HP := hide hP
      have HN := hide hN
      have HM := hide (And.intro hmax hws)
      clear al bt lv hW hP hN hmax hws hA ha hl
      by_cases gP : P < N
      · have hW := HW.out
        rw [if_pos gP] at hW
        have HW2 := hide hW
        clear hW
        have dP : decide ((P : Int) < (N : Int)) = true := decide_eq_true (by omega)
        go_enter Try.func26, Try.ntmps26
        go_wp2_with (first | (go_at_call 49; refine (Calls.mono HAl.out ?_); rintro e w1 ⟨rfl, hww⟩; replace hww := hww.symm; subst hww) | (go_at_call 50; refine (Calls.mono (HBt.out _) ?_); rintro e w1 ⟨rfl, hww⟩; replace hww := hww.symm; subst hww) | (go_at_call 51; refine (Calls.mono HLv.out ?_); rintro e w1 ⟨O, co, rfl, hO, hOb, hb1⟩; have HO := hide (And.intro hO hOb); have hz1 := hb1.size; clear hO hOb))
        go_ret2
        exact LenP.bad HW2.out (by decide) (hb1.alloc hz1 _)
      · have hW := HW.out
        rw [if_neg gP] at hW
        have HW2 := hide hW
        clear hW
        have dP : decide ((P : Int) < (N : Int)) = false := decide_eq_false (by omega)
        rcases (show N = 0 ∨ N = 1 ∨ 2 ≤ N by omega) with g0 | g0 | g0
        · subst g0
          have hpl : packL ws L = List.replicate ws.length 0 := by unfold packL; rw [if_pos HN.out.symm]
          have HPl := hide hpl
          clear hpl
          go_enter Try.func26, Try.ntmps26
          go_wp2_with (first | (go_at_call 49; refine (Calls.mono HAl.out ?_); rintro e w1 ⟨rfl, hww⟩; replace hww := hww.symm; subst hww) | (go_at_call 50; refine (Calls.mono (HBt.out _) ?_); rintro e w1 ⟨rfl, hww⟩; replace hww := hww.symm; subst hww) | (go_at_call 51; refine (Calls.mono HLv.out ?_); rintro e w1 ⟨O, co, rfl, hO, hOb, hb1⟩; have HO := hide (And.intro hO hOb); have hz1 := hb1.size; clear hO hOb))
          go_ret2
          refine ⟨hb1.alloc hz1 _, .inl ⟨HW2.out, some ⟨w1.heap.size, 0, none⟩, ws.length, rfl, ?_, (fun a ha => by cases ha; exact hz1)⟩⟩
          rw [Int.toNat_natCast, HPl.out]
          exact bk_nats (by rw [zeros_made]; exact Bk.new _ _ _)
        · subst g0
          have hpl : packL ws L = (List.replicate ws.length 0).set ((ordL ws).getD 0 0) 1 := by unfold packL; rw [if_neg (by rw [← HN.out]; decide), if_pos HN.out.symm]
          obtain ⟨o0, ho0⟩ : ∃ o0, (ordL ws)[0]? = some o0 := ⟨(ordL ws)[0]'(by rw [← HN.out]; decide), by simp [← HN.out]⟩
          have ho1 := (ordL_lt (List.mem_of_getElem? ho0)).1
          have hg0 : (ordL ws).getD 0 0 = o0 := by rw [List.getD_eq_getElem?_getD, ho0]; rfl
          rw [hg0] at hpl
          have HPl := hide hpl
          have HO0 := hide ho0
          clear hpl ho0 hg0
          go_enter Try.func26, Try.ntmps26
          go_wp2_with (first | (go_at_call 49; refine (Calls.mono HAl.out ?_); rintro e w1 ⟨rfl, hww⟩; replace hww := hww.symm; subst hww) | (go_at_call 50; refine (Calls.mono (HBt.out _) ?_); rintro e w1 ⟨rfl, hww⟩; replace hww := hww.symm; subst hww) | (go_at_call 51; refine (Calls.mono HLv.out ?_); rintro e w1 ⟨O, co, rfl, hO, hOb, hb1⟩; obtain ⟨bo, oo, rfl, hbo, co0⟩ := hO 0 (.int .i64 o0) (by rw [List.getElem?_map, HO0.out]; rfl); rw [Nat.add_zero] at co0; have HO := hide (And.intro hO hOb); have hz1 := hb1.size; have kg := Bk.new w1 3 (madeCells #[.int .i64 0] ws.length); have kf := kg.free o0; have kc : (w1.alloc (.cells (madeCells #[.int .i64 0] ws.length) 3)).cell? ⟨w1.heap.size, o0, none⟩ = some (.int .i64 0) := (kg.cell o0).trans (by rw [← zeros_made, List.getElem?_toArray]; simp [ho1]); have HKg := hide kg; clear hO hOb kg))
          go_ret2
          refine ⟨hb1.alloc hz1 _, .inl ⟨HW2.out, some ⟨w1.heap.size, 0, none⟩, ws.length, rfl, ?_, (fun a ha => by cases ha; exact hz1)⟩⟩
          rw [Int.toNat_natCast, HPl.out]
          refine bk_nats (t := 3) ?_
          rw [← one_made]
          exact Bk.new _ _ _
        · have hlw : (lwL ws).length = N := by rw [lwL_length, HN.out]
          have hpl : packL ws L = fill (List.replicate ws.length 0) ((ordL ws).zip (cntL (lwL ws) L)) := by unfold packL; rw [if_neg (by have := HN.out; omega), if_neg (by have := HN.out; omega)]
          have HPl := hide hpl
          have HLw := hide hlw
          have lww : ∀ x ∈ lwL ws, x ≤ 1099511627776 := by
            intro x hx
            unfold lwL at hx
            obtain ⟨i, hi, rfl⟩ := List.mem_map.1 hx
            have h1 := ordL_lt hi
            have h2 := HM.out.1 (ws.getD i 0) (by rw [List.getD_eq_getElem?_getD, List.getElem?_eq_getElem h1.1]; exact List.getElem_mem _)
            omega
          have HLww := hide lww
          have nx : ∀ (O : Option Addr) (co : Nat) (w1 : World), Below w.heap.size w w1 → Rd w1 w1.heap.size O ((ordL ws).map fun (x : Nat) => Value.int .i64 x) → ∀ (V : Option Addr) (cv : Nat) (l : List It) (W : World), Below w1.heap.size w1 W → RdI W W.heap.size V l → l.length ≤ 1024 → (∀ x ∈ l, x.w ≤ 1152921504606846976) →
              Calls Try.prog 52 #[.slice A ws.length ca, .slice O N co, .slice V l.length cv] W (NextLP (nxtL (lwL ws) l) W) := by
            intro O co w1 hb1 hO V cv l W hW hV hl1 hl2
            have := next_lv A O V ws (ordL ws) l ca co cv W ((HA.out.below (hb1.trans (hW.mono hb1.size))).more (Nat.le_trans hb1.size hW.size)) ((hO.below hW).more hW.size) hV h512 (by have := ordL_length ws; omega) hl1 (fun x hx => (ordL_lt hx).1) (fun x hx => ⟨HM.out.2 x hx, HM.out.1 x hx⟩) hl2
            rw [← HN.out] at this
            exact this
          have HNx := hide nx
          have dn1 : ((N : Int) == 1) = false := by simp; omega
          have dn0 : ((N : Int) == 0) = false := by simp; omega
          clear hpl hlw lww nx
          go_enter Try.func26, Try.ntmps26
          go_wp2_with (first | (go_at_call 49; refine (Calls.mono HAl.out ?_); rintro e w1 ⟨rfl, hww⟩; replace hww := hww.symm; subst hww) | (go_at_call 50; refine (Calls.mono (HBt.out _) ?_); rintro e w1 ⟨rfl, hww⟩; replace hww := hww.symm; subst hww) | (go_at_call 51; refine (Calls.mono HLv.out ?_); rintro e w1 ⟨O, co, rfl, hO, hOb, hb1⟩; have HO := hide (And.intro hO hOb); have hz1 := hb1.size; have HB1 := hide hb1; have nx1 := HNx.out O co w1 hb1 hO; have HNx1 := hide nx1; clear hO hOb hb1 nx1) | (go_at_call 52; refine (Calls.mono (HNx1.out none 0 [] (w1.alloc (.cells (madeCells #[.int .i64 0] ws.length) 3)) ((Below.refl _ w1).alloc (Nat.le_refl _) _) Rd.nil_ (by simp) (by simp)) ?_); rintro e w2 ⟨A2, c2, rfl, hown2, hb2⟩; have HOw2 := hide hown2; have HB2 := hide hb2; clear hown2 hb2))
          obtain ⟨i0, hi, hz0', hz1', hz2'⟩ := info_parts info_items
          have hgo : w1.heap.size < w2.heap.size := by have := HB2.out.size; simp at this; omega
          go_loopw [9] (fun v wr => ∃ (k : Nat) (vs : List Value), 1 ≤ k ∧ k ≤ L ∧ Hid (wr.ownsRow (w1.heap.size + 1) 81 1 v k vs) ∧ Hid (LvO wr (w1.heap.size + 1) (lvls (lwL ws) k) vs) ∧ Hid (Bk wr w1.heap.size 3 (madeCells #[.int .i64 0] ws.length)) ∧ Hid (Below w1.heap.size w1 wr)) (fun v _ => L - (match v with | .slice _ k _ => k | _ => 0))
          case atStart =>
            refine ⟨1, [.slice A2 (nxtL (lwL ws) []).length c2], by omega, g1, hide ?_, hide ?_, hide ?_, hide ?_⟩
            · exact World.ownsRow_lit w2 #[.slice A2 (nxtL (lwL ws) []).length c2] 1 (by omega) (by unfold maxLen; omega) rfl
            · have h0 : LvO (w2.alloc (.cells #[.slice A2 (nxtL (lwL ws) []).length c2] 81)) (w1.heap.size + 1) [] [] := ⟨rfl, fun j l hl => by simp at hl⟩
              have := h0.snoc (own_base (HOw2.out.alloc _) (fun g hg => by have := (HOw2.out.lt g hg).1; simpa using this))
              exact this
            · exact ((Bk.new w1 _ _).keep HB2.out).alloc _
            · exact ((((Below.refl _ w1).alloc (Nat.le_refl _) _).trans (HB2.out.mono (by simp))).alloc (by omega) _)
          case round =>
            clear HOw2 HB2
            obtain ⟨k, vs, hk1, hk2, HRow, HLvO, HGo, HBe⟩ := hrel
            obtain ⟨g, cv, rfl, hgb, hgl⟩ := own_some HRow.out (by omega)
            have hsz := HBe.out.size
            have hol := HGo.out.lt
            have hvl : vs.length = k := by have := HLvO.out.1; rw [lvls_length] at this; exact this
            by_cases hkL : k < L
            · have dkL : decide ((k : Int) < (L : Int)) = true := decide_eq_true (by omega)
              obtain ⟨A2, c2, hv2, hown2⟩ := HLvO.out.2 (k - 1) (lvlL (lwL ws) (k - 1)) (lvls_get (by omega))
              have hc2 : wr.cell? ⟨g, k - 1, none⟩ = some (.slice A2 (lvlL (lwL ws) (k - 1)).length c2) := by
                have := HRow.out.cells (g := g) rfl (k - 1) _ hv2
                rwa [Addr.add_lit, Nat.zero_add] at this
              obtain ⟨lv, hlv⟩ : ∃ lv, lv = lvlL (lwL ws) (k - 1) := ⟨_, rfl⟩
              rw [← hlv] at hc2 hown2
              have hl1 : lv.length ≤ 1024 := by
                have h1 := lvlL_length (lwL ws) (k - 1)
                rw [← hlv, HLw.out] at h1; omega
              have hl2 : ∀ x ∈ lv, x.w ≤ 1152921504606846976 := by
                intro x hx
                rw [hlv] at hx
                have h1 := lvlL_w HLww.out (k - 1) x hx
                have h2 : 2 ^ (k - 1 + 1) ≤ 2 ^ 15 := Nat.pow_le_pow_right (by omega) (by omega)
                have h3 := Nat.mul_le_mul_left 1099511627776 h2
                omega
              have nx2 := HNx1.out A2 c2 lv wr HBe.out (own_rdN hown2).1 hl1 hl2
              have hTk : nxtL (lwL ws) lv = lvlL (lwL ws) k := by
                obtain ⟨q, rfl⟩ : ∃ q, k = q + 1 := ⟨k - 1, by omega⟩
                rw [hlv]; rfl
              obtain ⟨T, hT⟩ : ∃ T, T = nxtL (lwL ws) lv := ⟨_, rfl⟩
              rw [← hT] at nx2 hTk
              have HNx2 := hide nx2
              have HTk := hide hTk
              have n1 : (k : Int) - 1 = ((k - 1 : Nat) : Int) := by omega
              clear hv2 hown2 hlv hl1 hl2 nx2 hTk hT
              go_wp2_with (first
                | (go_at_call 52; refine (Calls.mono HNx2.out ?_); rintro e w3 ⟨A3, c3, rfl, hown3, hb3⟩; have HOw3 := hide hown3; have HB3 := hide hb3; have HRow3 := hide (own_fr HRow.out (Fr.below hb3 (fun _ => False)) (fun _ _ h => h)); have hsz3 := hb3.size; clear hown3 hb3)
                | (at_builtin; refine wpList_append_own _ rfl (.tmp 52) (.tmp 62) 83 rfl (w1.heap.size + 1) 81 i0 (.slice none 0 0) 1 24 Try.underlying83 hi hz0' hz1' hz2' rfl (by decide) _ _ _ rfl (HRow3.out.alloc _) ⟨w3.heap.size, 0, none⟩ 1 1 [.slice A3 T.length c3] rfl rfl (cell_one_new _ _ _) (by intro u hu; simp at hu; subst hu; rfl) (by unfold maxLen; omega) (by omega) (by simp; omega) ?_; intro v' w4 hown4 hgr4 _))
              have rowA := HRow3.out.alloc (.cells #[.slice A3 T.length c3] 81)
              have lvA := (HLvO.out.below HB3.out).alloc (.cells #[.slice A3 T.length c3] 81)
              have newA := (own_base HOw3.out (base' := w1.heap.size + 1) (fun g hg => by have := (HOw3.out.lt g hg).1; omega)).alloc (.cells #[.slice A3 T.length c3] 81)
              have goA := (HGo.out.keep HB3.out).alloc (.cells #[.slice A3 T.length c3] 81)
              go_roundw
              case rel =>
                refine ⟨k + 1, vs ++ [.slice A3 T.length c3], by omega, by omega, hide hown4, hide ?_, hide ?_, hide ?_⟩
                · rw [lvls_succ, ← HTk.out]
                  exact (lvA.grown rowA hgr4).snoc (newA.kept hgr4 (own_apart newA rowA (by decide)))
                · exact goA.grown hgr4 (fun e => by have h9 : some w1.heap.size = some g := e; have := Option.some.inj h9; omega)
                · exact (((HBe.out.trans (HB3.out.mono hsz)).alloc (by omega) _).grown hgr4 (by simp; omega) (fun g' hg' => by have h9 : some g = some g' := hg'; have := Option.some.inj h9; omega))
              case measure =>
                obtain ⟨g', c', rfl, _, _⟩ := own_some hown4 (by omega)
                simp; omega
            · obtain rfl : k = L := by omega
              have dkL : decide ((k : Int) < (k : Int)) = false := decide_eq_false (by omega)
              have cells := fun (j : Nat) (v : Value) (hj : vs[j]? = some v) => (show wr.cell? ⟨g, 0 + j, none⟩ = some v by have := HRow.out.cells (g := g) rfl j v hj; rwa [Addr.add_lit] at this)
              have ct := count_any g 0 cv N (lvls (lwL ws) k) vs wr hgl cells HLvO.out.reads (by omega) g0 (by rw [lvls_length]; exact g2)
                (fun l hl => by
                  obtain ⟨j, hj, rfl⟩ := List.mem_map.1 hl
                  refine ⟨?_, fun x hx => ?_⟩
                  · have h1 := lvlL_length (lwL ws) j
                    rw [HLw.out] at h1; omega
                  · have := lvlL_leaf hx
                    rw [HLw.out] at this; exact this)
                (fun j l hl => by
                  have h1 := st_fits (lw := lwL ws) (L := k) (by rw [HLw.out, HP.out]; omega) hl
                  rw [HLw.out] at h1; exact h1)
              rw [hvl] at ct
              obtain ⟨cn, hcn⟩ : ∃ cn, cn = (stC N (lvls (lwL ws) k).reverse).2 := ⟨_, rfl⟩
              rw [← hcn] at ct
              have hcl : cn.length = N := by rw [hcn]; exact stC_length _ _
              have hpl2 : packL ws k = fill (List.replicate ws.length 0) ((ordL ws).zip cn) := by rw [HPl.out, hcn]; unfold cntL; rw [HLw.out]
              have HCt := hide ct
              have HCl := hide hcl
              have HPl2 := hide hpl2
              clear ct hcl hcn hpl2 cells
              go_wp2_with (first | (go_at_call 53; refine (Calls.mono HCt.out ?_); rintro e w5 ⟨A5, c5, rfl, hr5, hf5, hb5⟩; have HR5 := hide (And.intro hr5 hf5); have HB5 := hide hb5; have hsz5 := hb5.size; have HGo5 := hide (HGo.out.keep hb5); clear hr5 hf5 hb5))
              go_loopw [69] (fun vi wx => ∃ i : Nat, i ≤ N ∧ vi = .int .i64 i ∧ Hid (Bk wx w1.heap.size 3 (((fill (List.replicate ws.length 0) (((ordL ws).zip cn).take i)).map fun (x : Nat) => Value.int .i64 x).toArray)) ∧ Hid (Fr (fun q => q = w1.heap.size) w5 wx)) (fun vi _ => N - (intOf vi).toNat)
              case atStart => exact ⟨0, by omega, rfl, hide (by rw [List.take_zero]; show Bk _ _ _ ((List.replicate ws.length 0).map _).toArray; rw [zeros_made]; exact HGo5.out), hide (Fr.refl _ _)⟩
              case round =>
                obtain ⟨i, hi, rfl, HG, HF⟩ := hrel
                by_cases hlt : i < N
                · obtain ⟨o, ho⟩ : ∃ o, (ordL ws)[i]? = some o := ⟨(ordL ws)[i]'(by have := HN.out; omega), by simp⟩
                  obtain ⟨z, hz⟩ : ∃ z, cn[i]? = some z := ⟨cn[i]'(by have := HCl.out; omega), by simp⟩
                  have hol2 := (ordL_lt (List.mem_of_getElem? ho)).1
                  obtain ⟨bo, oo, hOe, hbo, co0⟩ := HO.out.1 i (.int .i64 o) (by rw [List.getElem?_map, ho]; rfl)
                  obtain ⟨b5, o5, hA5, hb5, ca5⟩ := HR5.out.1 i (.int .i64 z) (by rw [List.getElem?_map, hz]; rfl)
                  subst hOe hA5
                  have hb5g := HR5.out.2 _ rfl
                  have hfi : (((ordL ws).zip cn).take (i + 1)) = (((ordL ws).zip cn).take i) ++ [(o, z)] := by
                    rw [List.take_add_one, List.getElem?_zip_eq_some.2 (show (ordL ws)[i]? = some (o, z).1 ∧ cn[i]? = some (o, z).2 from ⟨ho, hz⟩)]; rfl
                  have HFi := hide hfi
                  have bw5 : Below w1.heap.size w1 w5 := HBe.out.trans (HB5.out.mono hsz)
                  have c1 : wr.cell? ⟨bo, oo + i, none⟩ = some (.int .i64 o) := HF.out.cell (by show ¬ bo = w1.heap.size; omega) ((bw5.cell (p := ⟨bo, oo + i, none⟩) hbo).trans co0)
                  have c2 : wr.cell? ⟨b5, o5 + i, none⟩ = some (.int .i64 z) := HF.out.cell (by show ¬ b5 = w1.heap.size; simp at hb5g; omega) ca5
                  obtain ⟨fl, hfl⟩ : ∃ fl, fl = fill (List.replicate ws.length 0) (((ordL ws).zip cn).take i) := ⟨_, rfl⟩
                  have hfll : fl.length = ws.length := by rw [hfl, fill_length]; simp
                  rw [← hfl] at HG
                  obtain ⟨y, hy⟩ : ∃ y, fl[o]? = some y := ⟨fl[o]'(by omega), by simp⟩
                  have c3 : wr.cell? ⟨w1.heap.size, o, none⟩ = some (.int .i64 y) := (HG.out.cell o).trans (by rw [List.getElem?_toArray, List.getElem?_map, hy]; rfl)
                  have f3 := HG.out.free o
                  have HFl := hide hfl
                  clear ho hz hfi hfl hfll hy bw5
                  go_wp2_with fail
                  go_roundw
                  case rel =>
                    refine ⟨i + 1, by omega, by go_num, hide ?_, hide (HF.out.setCell (.inl rfl) _)⟩
                    rw [HFi.out, fill_snoc, ← HFl.out]
                    have := HG.out.set_ o (.int .i64 (z : Nat))
                    rw [List.setIfInBounds_toArray, ← List.map_set (f := fun (x : Nat) => Value.int .i64 x) (a := z)] at this
                    exact this
                  case measure => simp [intOf]; omega
                · go_wp2_with fail
                  go_ret2
                  have bw5 : Below w1.heap.size w1 w5 := HBe.out.trans (HB5.out.mono hsz)
                  refine ⟨(HB1.out.trans (bw5.mono hz1)).trans (HF.out.toBelowB (by rintro q rfl; exact hz1) (by have := bw5.size; omega)), .inl ⟨HW2.out, some ⟨w1.heap.size, 0, none⟩, ws.length, rfl, ?_, (fun a ha => by cases ha; exact hz1)⟩⟩
                  rw [Int.toNat_natCast, HPl2.out]
                  have hG := HG.out
                  rw [List.take_of_length_le (by rw [List.length_zip, HCl.out]; omega)] at hG
                  exact bk_nats hG
    · have hW : packW ws lim = 1 := by unfold packW; rw [if_neg (fun h => hl h.2)]
      rw [decide_eq_false hl] at bt
      have HBt := hide bt
      have HW := hide hW
      clear al bt hW ha hA
      go_enter Try.func26, Try.ntmps26
      go_wp2_with (first | (go_at_call 49; refine (Calls.mono HAl.out ?_); rintro e w1 ⟨rfl, hww⟩; replace hww := hww.symm; subst hww) | (go_at_call 50; refine (Calls.mono (HBt.out _) ?_); rintro e w1 ⟨rfl, hww⟩; replace hww := hww.symm; subst hww))
      go_ret2
      exact LenP.bad HW.out (by decide) (Below.refl _ _)
  · have ha' : alphaB ws = false := by simpa using ha
    have hW : packW ws lim = 1 := by unfold packW; rw [if_neg (fun h => ha h.1)]
    rw [ha'] at al
    have HAl := hide al
    have HW := hide hW
    clear al bt hW ha ha' hA
    go_enter Try.func26, Try.ntmps26
    go_wp2_with (first | (go_at_call 49; refine (Calls.mono HAl.out ?_); rintro e w1 ⟨rfl, hww⟩; replace hww := hww.symm; subst hww))
    go_ret2
    exact LenP.bad HW.out (by decide) (Below.refl _ _)
#print axioms lengths_any
end Go.Proofs.Ytggffiikfelbjaa
