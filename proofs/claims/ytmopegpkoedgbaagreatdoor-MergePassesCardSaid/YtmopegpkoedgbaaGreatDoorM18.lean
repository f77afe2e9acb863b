/- Lemmas for the row: RdrD, RdrE, WtrD, WtrE, WtrF, RdrF, FlowA, NumR, NumS. -/
import Derived.Test.YtmopegpkoedgbaaGreatDoorM01
import Derived.Test.YtmopegpkoedgbaaGreatDoorM02
import Derived.Test.YtmopegpkoedgbaaGreatDoorM03
import Derived.Test.YtmopegpkoedgbaaGreatDoorM04
import Derived.Test.YtmopegpkoedgbaaGreatDoorM07
import Derived.Test.YtmopegpkoedgbaaGreatDoorM14
import Derived.Test.YtmopegpkoedgbaaGreatDoorM15
import Derived.Test.YtmopegpkoedgbaaGreatDoorM17
import Derived.Laws.MakeOwn
import Derived.Lib.Builder
import Derived.LoopIn
import Derived.LoopNIn
import Derived.OwnWalkIn
import Derived.Shelf.Abstract
import Derived.Shelf.RegionOpen
import Derived.TacticsInMore
set_option linter.unusedVariables false
set_option linter.unusedSimpArgs false
/- Walk: (*recs.Reader).Bytes. -/
namespace Go.Proofs.YtmopegpkoedgbaaGreatDoor
open Go.RowKit Go.Sort

theorem info_byte : (Tryz.prog.info? 5).map (fun i => (i.zero, i.size, i.bytes)) = some (some (.int .u8 0), 1, 1) := by kernel_rfl
theorem cells_vby (s : ByteArray) : Lib.strCells s = vby (strL s) := by
  apply List.ext_getElem?
  intro i
  unfold Lib.strCells vby
  rw [List.getElem?_map, List.getElem?_map]
  rcases Nat.lt_or_ge i s.size with g | g
  · rw [strL_get g, ← byt_of s g, Array.getElem?_toList, Array.getElem?_eq_getElem (by simpa using g)]; rfl
  · rw [List.getElem?_eq_none (by simpa using g), List.getElem?_eq_none (by rw [strL_length]; exact g)]; rfl
theorem vby_app (a b : List Nat) : vby (a ++ b) = vby a ++ vby b := by unfold vby; rw [List.map_append]
def lenV (v : Value) : Nat := match v with | .slice _ k _ => k | _ => 0
theorem u8_not : ¬ ATy 5 := by unfold ATy; decide
/-- A row of bytes of its own stays behind what a call may write. -/
theorem own_gfr8 {B : Fld} {p g : Nat} {r : Rdr} {w w' : World} {base n : Nat} {v : Value} {xs : List Value} (ho : w.ownsRow base 5 1 v n xs) (h : GFr g B w w') (hr : RdAt w p g r) : w'.ownsRow base 5 1 v n xs :=
  own_gfr ho h u8_not fun k hk e => own_ne ho hr (by decide) (by rw [hk, e])
theorem append_fin {B : Fld} {p g base n nq : Nat} {a : Ar} {r : Rdr} {w w3 : World} {v : Value} {xs : List Value} (ha : ArAt w B p a) (hr : RdAt w p g r) (ho : (w.drewN nq).ownsRow base 5 1 v n xs) (hb : base ≤ w.heap.size) (hg : (w.drewN nq).grownBy w3 v.ownBlock) : ArAt w3 B p a ∧ RdAt w3 p g r ∧ RowKit.Below base w w3 := by
  have hf : AFr (fun t => t = 5) (fl 0) w w3 := ((AFr.refl _ _ w).drewN nq).grown ho (fun k _ => Nat.zero_le _) rfl hg
  exact ⟨ha.other hf (fun t ht e => u8_not (by rw [← e]; exact ht)), hr.other hf (by decide), by
    have h := Fr.toBelowB (B := base) (Fr.grown hg (S := fun k => v.ownBlock = some k) (fun k hk => hk)) (fun k hk => (ho.lt k hk).1) hb
    exact ⟨h.os, h.tape, h.output, h.size, h.block⟩⟩
set_option maxRecDepth 100000 in
set_option maxHeartbeats 8000000 in
theorem bytes_any (B : Fld) (p g n : Nat) (a : Ar) (r : Rdr) (w : World) (ha : ArAt w B p a) (hv : InvA a) (hr : RdAt w p g r) (hh : HeldW a r) (hn : n ≤ 1000) (hat : r.at_ ≤ 10000000) :
    Calls Tryz.prog 122 #[.pointer (some ⟨g, 0, none⟩), .int .i64 n] w fun e w' => ArAt w' B p (rbytes n (n + 1) ⟨#[]⟩ a r).1 ∧ RdAt w' p g (rbytes n (n + 1) ⟨#[]⟩ a r).2.1 ∧ GFr g B w w' ∧ ((rbytes n (n + 1) ⟨#[]⟩ a r).2.2 = none → e = .returned (.tuple #[.slice none 0 0, .bool false])) ∧ ∀ s, (rbytes n (n + 1) ⟨#[]⟩ a r).2.2 = some s → ∃ A c, e = .returned (.tuple #[.slice A n c, .bool true]) ∧ w'.ownsRow w.heap.size 5 1 (.slice A n c) n (vby (strL s)) := by
  obtain ⟨i0, hi, hz0, hz1, hz2⟩ := info_parts info_byte
  obtain ⟨w1, hmk, hown, hgr⟩ := run_make_own (P := Tryz.prog) w w.heap.size 99 5 i0 (.int .u8 0) 1 Tryz.underlying99 hi hz0 hz1 .i64 .i64 n (by rw [hz2]; omega) (by unfold maxLen; omega) (Nat.le_refl _)
  obtain ⟨v0, hv0⟩ : ∃ v : Value, v = .slice (some ⟨w.heap.size, 0, none⟩) 0 n := ⟨_, rfl⟩
  rw [← hv0] at hmk hown
  clear hv0
  have hbe1 : RowKit.Below w.heap.size w w1 := (Below.refl _ _).grown hgr (Nat.le_refl _) (fun g hg => by cases hg)
  obtain ⟨R, hR⟩ : ∃ R, R = rbytes n (n + 1) ⟨#[]⟩ a r := ⟨_, rfl⟩
  rw [← hR]
  have HR := hide hR
  have HOwn := hide hown
  have HB1 := hide hbe1
  have HA1 := hide (ha.keep hbe1)
  have HRd1 := hide (hr.keep hbe1)
  have HV := hide hv
  have HH := hide hh
  clear hR hown hbe1 hgr ha hr hv hh
  go_enter Tryz.func122, Tryz.ntmps122
  go_wp2_with fail
  go_loopw [6] (fun s6 wr => ∃ (f : Nat) (out : ByteArray) (a1 : Ar) (r1 : Rdr), Hid (R = rbytes n f out a1 r1) ∧ out.size ≤ n ∧ n < f + out.size ∧ r1.at_ ≤ 10000000 + out.size ∧ Hid (InvA a1) ∧ Hid (HeldW a1 r1) ∧ Hid (ArAt wr B p a1) ∧ Hid (RdAt wr p g r1) ∧ Hid (GFr g B w wr) ∧ Hid (wr.ownsRow w.heap.size 5 1 s6 out.size (vby (strL out)))) (fun s6 _ => n - lenV s6)
  case atStart => exact ⟨n + 1, ⟨#[]⟩, a, r, HR, Nat.zero_le _, by show n < n + 1 + 0; omega, by omega, HV, HH, HA1, HRd1, hide (GFr.below HB1.out), HOwn⟩
  case round =>
    clear HR HA1 HRd1 HV HH HOwn
    obtain ⟨f, out, a1, r1, HR, ho1, ho2, hat1, HV, HH, HA, HRd, HG, HO⟩ := hrel
    obtain ⟨A, c, rfl⟩ := own_formk HO.out
    by_cases hlt : out.size < n
    · obtain ⟨f, rfl⟩ : ∃ k, f = k + 1 := ⟨f - 1, by omega⟩
      have hhd := hold_any B p g a1 r1 wr HA.out HV.out HRd.out HH.out.lt (by omega)
      obtain ⟨q1, q2, q3, q4, q5, q6, q7, q8⟩ := rhold_sp HV.out HH.out
      have hrb := HR.out
      unfold rbytes at hrb
      rw [if_pos hlt] at hrb
      dsimp only at hrb
      obtain ⟨H, hH⟩ : ∃ H, H = rhold a1 r1 := ⟨_, rfl⟩
      rw [← hH] at hhd q1 q3 q4 q5 hrb
      obtain ⟨a2, r2, ok⟩ := H
      dsimp only at hhd q1 q3 q4 q5 hrb
      have HHd := hide hhd
      have HV2 := hide q1
      have HH2 := hide q3
      have hlI : (out.size : Int) < (n : Int) := by omega
      clear hhd q1 q2 q3 q6 q7 q8 hH
      cases ok with
      | false =>
        rw [if_neg (by decide)] at hrb
        have HRb := hide hrb
        clear hrb HR q4
        go_wp2_with (go_at_call 160; refine Calls.mono HHd.out ?_; rintro e w2 ⟨rfl, ha2, hr2, hf2⟩; have HA2 := hide ha2; have HRd2 := hide hr2; have HG2 := hide hf2; clear ha2 hr2 hf2)
        refine bodyPost_ret (v := .tuple #[.slice none 0 0, .bool false]) (by simp [results, Tryz.results122, go_sem]) rfl ?_
        rw [HRb.out]
        exact ⟨HA2.out, HRd2.out, HG.out.trans HG2.out, fun _ => rfl, fun s hs => by cases hs⟩
      | true =>
        rw [if_pos rfl] at hrb
        have hhold := q4 rfl
        have hfl := hold_lt hhold
        have hdt := getF_data HV2.out hhold
        have hlk := fun W (h : ArAt W B p a2) => look_any B p r2.frame a2 W h hfl
        obtain ⟨T, hT⟩ : ∃ T, T = (getF a2 r2.frame).dt := ⟨_, rfl⟩
        rw [← hT] at hdt hlk hrb
        obtain ⟨o, ho⟩ : ∃ o, o = r2.at_ % 64 := ⟨_, rfl⟩
        rw [← ho] at hrb
        have ho64 : o < 64 := by omega
        have hoI : (r2.at_ : Int) % 64 = (o : Int) := by omega
        have hoN : r2.at_ % 64 = o := by omega
        have hat2 : r2.at_ ≤ 10000000 + out.size := by omega
        obtain ⟨U, hU⟩ : ∃ U, U = T.extract o 64 := ⟨_, rfl⟩
        have hsz : U.size = 64 - o := by rw [hU, ByteArray.size_extract]; omega
        obtain ⟨k, hk⟩ : ∃ k, k = min (T.size - o) (n - out.size) := ⟨_, rfl⟩
        rw [← hk] at hrb
        have hk1 : 0 < k := by omega
        have hk2 : k ≤ n - out.size := by omega
        have hk3 : k ≤ 64 - o := by omega
        have hkI : min ((64 - o : Nat) : Int) ((n : Int) - (out.size : Int)) = (k : Int) := by omega
        have hex : U.extract 0 k = T.extract o (o + k) := by
          rw [hU, ByteArray.extract_extract]
          congr 1 <;> omega
        have hUe : T.extract o 64 = U := hU.symm
        have hUk : (U.extract 0 k).size = k := by rw [ByteArray.size_extract]; omega
        have hkN : min (64 - o) (n - out.size) = k := by omega
        have HRb := hide hrb
        have HLk := hide hlk
        have HEx := hide hex
        have oI : (o : Int) ≤ 64 := by omega
        clear hrb HR q4 q5 hlk hT ho hex hk hhold hfl hU hat1
        go_upto_region 5 with (go_at_call 160; refine Calls.mono HHd.out ?_; rintro e w2 ⟨rfl, ha2, hr2, hf2⟩; obtain ⟨c0, c1, c2, c3, c4, c5, c6, c7⟩ := eight_cells hr2; have hgl := hr2.lt; have c9 := Bk.free hr2 4; have HA2 := hide ha2; have HRd2 := hide hr2; have HG2 := hide hf2; have HO2 := hide (own_gfr8 HO.out hf2 HRd.out); have hsw := hf2.size; clear ha2 hr2 hf2)
        go_quiet ((go_at_call 161; exact Calls.quiet_of_same (HLk.out _ (show ArAt _ B p a2 from HA2.out))))
        have hbase : w.heap.size ≤ w2.heap.size := Nat.le_trans HG.out.size hsw
        have hmx : out.size + (U.extract 0 k).size ≤ maxLen := by unfold maxLen; omega
        have hmy : out.size + (U.extract 0 k).size ≤ 140737488355328 := by omega
        go_upto_region 7 with (fail)
        obtain ⟨vo, hvo⟩ : ∃ vo, vo = Value.slice A out.size c := ⟨_, rfl⟩
        rw [← hvo] at HO2
        simp only [← hvo]
        clear hvo
        go_wp2_with (
          at_builtin
          refine Lib.wpList_append_own_string _ rfl (.tmp 40) (.tmp 43) 99 9 rfl w.heap.size 5 i0 Tryz.underlying99 Tryz.underlying9 hi hz0 hz1 hz2 _ _ _ rfl HO2.out (U.extract 0 k) rfl hmx hmy hbase ?_
          intro v3 w3 hown3 hgr3 _
          obtain ⟨ha3, hr3, hb3⟩ := append_fin HA2.out HRd2.out HO2.out hbase hgr3
          obtain ⟨y0, y1, y2, y3, y4, y5, y6, y7⟩ := eight_cells hr3
          have z4 := Bk.free hr3 4
          have hgl3 := hr3.lt
          obtain ⟨A3, c3, rfl⟩ := own_formk hown3
          have HA3 := hide ha3
          have HRd3 := hide hr3
          have HO3 := hide hown3
          have HB3 := hide hb3
          clear ha3 hr3 hown3 hb3 hgr3)
        have hso : (out ++ T.extract o (o + k)).size = out.size + k := by rw [ByteArray.size_append, ByteArray.size_extract]; omega
        have hr4 := Bk.set_ HRd3.out 4 (.int .i64 (r2.at_ + k : Nat))
        refine ⟨⟨f, out ++ T.extract o (o + k), a2, { r2 with at_ := r2.at_ + k }, hide HRb.out, by omega, by omega, by show r2.at_ + k ≤ _; omega, HV2, hide HH2.out, hide (HA3.out.far HRd3.out rd_not 4 _), hide hr4, hide (((HG.out.trans HG2.out).thenBelow HB3.out (Nat.le_refl _)).set_ 4 _), hide ?_⟩, ?_⟩
        · rw [hso]
          have h4 := own_set HO3.out (p := ⟨g, 4, none⟩) (fun e => own_ne HO3.out HRd3.out (by decide) e.symm) (.int .i64 (r2.at_ + k : Nat))
          rw [bytes_app, vby_app, ← cells_vby (T.extract o (o + k)), ← HEx.out]
          rw [hUk] at h4
          exact h4
        · simp [lenV]; omega
    · have hon : out.size = n := by omega
      have hlI : ¬ (out.size : Int) < (n : Int) := by omega
      have hrb := HR.out
      obtain ⟨f, rfl⟩ : ∃ k, f = k + 1 := ⟨f - 1, by omega⟩
      unfold rbytes at hrb
      rw [if_neg (by omega)] at hrb
      have HRb := hide hrb
      clear hrb HR
      go_wp2_with fail
      refine bodyPost_ret (v := .tuple #[.slice A n c, .bool true]) (by simp [results, Tryz.results122, go_sem]) rfl ?_
      rw [HRb.out]
      refine ⟨HA.out, HRd.out, HG.out, fun h => (by cases h), fun s hs => ?_⟩
      cases hs
      have h5 := HO.out
      rw [hon] at h5
      exact ⟨A, c, rfl, h5⟩
end Go.Proofs.YtmopegpkoedgbaaGreatDoor
/- Walk: (*recs.Reader).Next. -/
namespace Go.Proofs.YtmopegpkoedgbaaGreatDoor
open Go.RowKit Go.Sort

theorem info_num : (Tryz.prog.info? 27).map (fun i => (i.zero, i.size, i.bytes)) = some (some (.int .u64 0), 1, 8) := by kernel_rfl
theorem made_u64 (n : Nat) : madeCells #[Value.int .u64 0] n = (vu64 (List.replicate n 0)).toArray := by
  apply Array.ext'
  apply List.ext_getElem?
  intro i
  simp [madeCells, vu64]
  rcases Nat.lt_or_ge i n with h | h
  · simp [h, Nat.mod_one]
  · simp [h]
theorem run_u64s (n : Nat) (hn : n ≤ 1000) (W : World) : (Instr.makeSlice 63 (.int .i64 n) (.int .i64 n)).run Tryz.prog W = .ok (.slice (some ⟨W.heap.size, 0, none⟩) n n) (W.alloc (.cells (vu64 (List.replicate n 0)).toArray 27)) := by
  obtain ⟨i0, hi, hz0, hz1, hz2⟩ := info_parts info_num
  have := run_make (P := Tryz.prog) W 63 27 i0 _ Tryz.underlying63 hi hz0 .i64 .i64 n n (by omega) (by omega) (by rw [hz2]; omega) (by omega)
  rw [hz1, Int.toNat_natCast, Nat.mul_one] at this
  rw [← made_u64]
  exact this
theorem own_made (W : World) (base n : Nat) (hb : base ≤ W.heap.size) (hn : n ≤ 1000) : (W.alloc (.cells (vu64 (List.replicate n 0)).toArray 27)).ownsRow base 27 1 (.slice (some ⟨W.heap.size, 0, none⟩) n n) n (vu64 (List.replicate n 0)) :=
  ⟨by rw [vu64_length, List.length_replicate, Nat.mul_one], .inr ⟨W.heap.size, n, _, rfl, hb, Bk.new _ _ _, Nat.le_refl _, by unfold maxLen; omega, by rw [List.size_toArray, vu64_length, List.length_replicate, Nat.mul_one], by
    rw [List.take_of_length_le (by rw [vu64_length, List.length_replicate]; omega)]⟩⟩
/-- A row of numbers that is filled from its front. -/
def partN (n : Nat) (L : Nat → Nat) (i : Nat) : List Nat := (List.range n).map fun k => if k < i then L k else 0
theorem partN_zero (n : Nat) (L : Nat → Nat) : partN n L 0 = List.replicate n 0 := by
  unfold partN
  simp only [Nat.not_lt_zero, if_false, List.map_const', List.length_range]
theorem partN_all (n : Nat) (L : Nat → Nat) : partN n L n = (List.range n).map L := by
  unfold partN
  apply List.map_congr_left
  intro k hk
  rw [if_pos (List.mem_range.1 hk)]
theorem partN_set (n : Nat) (L : Nat → Nat) {i : Nat} (hi : i < n) : (vu64 (partN n L i)).set i (.int .u64 (L i : Nat)) = vu64 (partN n L (i + 1)) := by
  apply List.ext_getElem?
  intro k
  rw [List.getElem?_set]
  unfold vu64 partN
  simp only [List.length_map, List.length_range, List.getElem?_map]
  rcases Nat.lt_or_ge k n with h | h
  · rw [List.getElem?_range h]
    by_cases e : i = k
    · subst e; simp [hi]
    · simp [e]
      by_cases h2 : k < i
      · simp [h2, Nat.lt_succ_of_lt h2]
      · have : ¬ k < i + 1 := by omega
        simp [h2, this]
  · have e : ¬ i = k := by omega
    simp [e, h]
/-- A cell of a row of bytes. -/
theorem own_byte {w : World} {base g n c : Nat} {s : ByteArray} (h : w.ownsRow base 5 1 (.slice (some ⟨g, 0, none⟩) n c) n (vby (strL s))) {i : Nat} (hi : i < s.size) : w.cell? ⟨g, i, none⟩ = some (.int .u8 (byt s i : Nat)) := by
  have hx : (vby (strL s))[i]? = some (.int .u8 (byt s i : Nat)) := by
    unfold vby
    rw [List.getElem?_map, strL_get hi]; rfl
  have := h.cells (g := g) rfl i _ hx
  rw [Addr.add_lit, Nat.zero_add] at this
  exact this
theorem byt_sub {s : ByteArray} {k j : Nat} (h : k + j < s.size) : byt (s.extract k s.size) j = byt s (k + j) := by
  have h1 : j < (s.extract k s.size).size := by rw [ByteArray.size_extract]; omega
  rw [← byt_of _ h1, ← byt_of _ h]
  simp [ByteArray.getElem_extract]
theorem u64_not : ¬ ATy 27 := by unfold ATy; decide
set_option maxRecDepth 100000 in
set_option maxHeartbeats 8000000 in
theorem next_any (B : Fld) (p g : Nat) (a : Ar) (r : Rdr) (w : World) (ha : ArAt w B p a) (hv : InvA a) (hr : RdAt w p g r) (hh : HeldW a r) (hw1 : 1 ≤ r.width) (hw8 : r.width ≤ 8) (hc : r.count ≤ 65536) (hat : r.at_ ≤ 10000000) :
    Calls Tryz.prog 81 #[.pointer (some ⟨g, 0, none⟩)] w fun e w' => ArAt w' B p (rnext a r).1 ∧ RdAt w' p g (rnext a r).2.1 ∧ GFr g B w w' ∧ ((rnext a r).2.2 = none → e = .returned (.tuple #[.slice none 0 0, .bool false])) ∧ ∀ l, (rnext a r).2.2 = some l → ∃ A c, e = .returned (.tuple #[.slice A l.length c, .bool true]) ∧ w'.ownsRow w.heap.size 27 1 (.slice A l.length c) l.length (vu64 l) := by
  have hmo := more_rd p g r w hr hw8 hc
  have HA := hide ha
  have HR := hide hr
  have hE : eachW r.width = 5 * r.width := by unfold eachW; rw [if_neg (by omega)]
  cases hm : rmore r with
  | false =>
    have hx : rnext a r = (a, r, none) := by unfold rnext; rw [hm]; rfl
    rw [hx]
    rw [hm] at hmo
    have HMo := hide hmo
    clear hmo ha hr hh hv hx hm hE
    go_enter Tryz.func81, Tryz.ntmps81
    go_wp2_with (go_at_call 121; refine Calls.mono HMo.out ?_; rintro e w1 ⟨rfl, hb1⟩; have HB1 := hide hb1; clear hb1)
    refine bodyPost_ret (v := .tuple #[.slice none 0 0, .bool false]) (by simp [results, Tryz.results81, go_sem]) rfl ?_
    exact ⟨HA.out.keep HB1.out, HR.out.keep HB1.out, GFr.below HB1.out, fun _ => rfl, fun l hl => by cases hl⟩
  | true =>
    rw [hm] at hmo
    have hx : rnext a r = ((rbytes (5 * r.width) (5 * r.width + 1) ⟨#[]⟩ a r).1, (rbytes (5 * r.width) (5 * r.width + 1) ⟨#[]⟩ a r).2.1, (rbytes (5 * r.width) (5 * r.width + 1) ⟨#[]⟩ a r).2.2.map fun s => (List.range r.width).map fun i => ofB (((strL s).drop (5 * i)).take 5)) := by unfold rnext; rw [hm, hE]; rfl
    rw [hx]
    have hby := fun (W : World) (h : RowKit.Below w.heap.size w W) => bytes_any B p g (5 * r.width) a r W (ha.keep h) hv (hr.keep h) hh (by omega) hat
    have hsp := (rbytes_sp (5 * r.width) (5 * r.width + 1) ⟨#[]⟩ hv hh (Nat.zero_le _)).2.2.2.2.2.2.2
    have hspw := (rbytes_sp (5 * r.width) (5 * r.width + 1) ⟨#[]⟩ hv hh (Nat.zero_le _)).2.2.2.2.1
    obtain ⟨R, hR⟩ : ∃ R, R = rbytes (5 * r.width) (5 * r.width + 1) ⟨#[]⟩ a r := ⟨_, rfl⟩
    rw [← hR] at hby hsp hspw ⊢
    obtain ⟨a2, r2, os⟩ := R
    dsimp only at hby hsp hspw ⊢
    have he := fun W => each_any r.width W (by omega)
    rw [hE] at he
    have HMo := hide hmo
    have HBy := hide hby
    have HEa := hide he
    have hem : ((5 * r.width : Nat) : Int) = 5 * (r.width : Int) := by omega
    clear hmo ha hr hh hv hx hm hE hby he hR
    cases os with
    | none =>
      clear hsp hspw
      go_enter Tryz.func81, Tryz.ntmps81
      go_wp2_with (first
        | (go_at_call 121; refine Calls.mono HMo.out ?_; rintro e w1 ⟨rfl, hb1⟩; obtain ⟨c0, c1, c2, c3, c4, c5, c6, c7⟩ := eight_cells (HR.out.keep hb1); have HB1 := hide hb1; clear hb1)
        | (go_at_call 87; refine Calls.mono (HEa.out _) ?_; rintro e w9 ⟨rfl, rfl⟩)
        | (go_at_call 122; refine Calls.mono (HBy.out _ HB1.out) ?_; rintro e w2 ⟨ha2, hr2, hf2, hn2, _⟩; obtain rfl := hn2 (by first | trivial | rfl); have HA2 := hide ha2; have HR2 := hide hr2; have HF2 := hide hf2; clear ha2 hr2 hf2 hn2))
      refine bodyPost_ret (v := .tuple #[.slice none 0 0, .bool false]) (by simp [results, Tryz.results81, go_sem]) rfl ?_
      exact ⟨HA2.out, HR2.out, (GFr.below HB1.out).trans HF2.out, fun _ => rfl, fun l hl => by cases hl⟩
    | some s =>
      have hss := (hsp s rfl).1
      have hmk := fun W => run_u64s r.width (by omega) W
      clear hsp
      go_enter Tryz.func81, Tryz.ntmps81
      go_wp2_with (first
        | (go_at_call 121; refine Calls.mono HMo.out ?_; rintro e w1 ⟨rfl, hb1⟩; obtain ⟨c0, c1, c2, c3, c4, c5, c6, c7⟩ := eight_cells (HR.out.keep hb1); have HB1 := hide hb1; clear hb1)
        | (go_at_call 87; refine Calls.mono (HEa.out _) ?_; rintro e w9 ⟨rfl, rfl⟩)
        | (go_at_call 122; refine Calls.mono (HBy.out _ HB1.out) ?_; rintro e w2 ⟨ha2, hr2, hf2, _, hs2⟩; obtain ⟨A, c, rfl, ho2⟩ := hs2 s (by first | trivial | rfl); obtain ⟨bb, rfl, hbc⟩ := own_some ho2 (by omega); obtain ⟨d0, d1, d2, d3, d4, d5, d6, d7⟩ := eight_cells hr2; have HA2 := hide ha2; have HR2 := hide hr2; have HF2 := hide hf2; have HO2 := hide (own_mono ho2 HB1.out.size); clear ha2 hr2 hf2 hs2 ho2))
      obtain ⟨n, hn⟩ : ∃ n, n = r.width := ⟨_, rfl⟩
      obtain ⟨gl, hgl⟩ : ∃ gl, gl = w2.heap.size := ⟨_, rfl⟩
      obtain ⟨L, hL⟩ : ∃ L : Nat → Nat, L = fun i => ofB (((strL s).drop (5 * i)).take 5) := ⟨_, rfl⟩
      have hsz2 : w.heap.size ≤ w2.heap.size := Nat.le_trans HB1.out.size HF2.out.size
      go_loopw [30] (fun s30 wr => ∃ k : Nat, s30 = .int .i64 k ∧ k ≤ r.width ∧ Hid (wr.ownsRow w.heap.size 27 1 (.slice (some ⟨w2.heap.size, 0, none⟩) r.width r.width) r.width (vu64 (partN r.width L k))) ∧ Hid (wr.ownsRow w.heap.size 5 1 (.slice (some ⟨bb, 0, none⟩) (5 * r.width) c) (5 * r.width) (vby (strL s))) ∧ Hid (ArAt wr B p a2) ∧ Hid (RdAt wr p g r2) ∧ Hid (GFr g B w wr)) (fun s30 _ => r.width - (intOf s30).toNat)
      case atStart => exact ⟨0, rfl, Nat.zero_le _, hide (by rw [partN_zero]; exact own_made w2 _ _ hsz2 (by omega)), hide (own_keep HO2.out (ba1 _ _)), hide (HA2.out.keep (ba1 _ _)), hide (HR2.out.keep (ba1 _ _)), hide (((GFr.below HB1.out).trans HF2.out).thenBelow (ba1 _ _) hsz2)⟩
      case round =>
        clear HO2 HA2 HR2 d0 d1 d2 d3 d4 d5 d6 d7
        obtain ⟨k, rfl, hk, HL, HO, HA2, HR2, HG⟩ := hrel
        by_cases hlt : k < r.width
        · have hfz := own_free (i := k) HL.out
          have hcl : wr.cell? ⟨w2.heap.size, k, none⟩ = some (.int .u64 (0 : Nat)) := by
            have hx : (vu64 (partN r.width L k))[k]? = some (.int .u64 (0 : Nat)) := by
              unfold vu64 partN
              rw [List.getElem?_map, List.getElem?_map, List.getElem?_range hlt]
              simp
            have := HL.out.cells (g := w2.heap.size) rfl k _ hx
            rw [Addr.add_lit, Nat.zero_add] at this
            exact this
          have hlb : w2.heap.size < wr.heap.size := own_lt HL.out _ rfl
          have hnum := numOfB_any bb (5 * k) (5 * r.width - 5 * k) (c - 5 * k) (s.extract (5 * k) s.size) wr (by rw [ByteArray.size_extract]; omega) (by omega) (fun j hj => by
            rw [byt_sub (by omega)]
            exact own_byte HO.out (by omega))
          have hLk : ofB ((strL (s.extract (5 * k) s.size)).take 5) = L k := by
            have ht : (strL s).take s.size = strL s := List.take_of_length_le (by rw [strL_length]; exact Nat.le_refl _)
            rw [hL, bytes_sub, ht]
          rw [hLk] at hnum
          have HNum := hide hnum
          have hset := partN_set r.width L hlt
          obtain ⟨x, hx⟩ : ∃ x, x = L k := ⟨_, rfl⟩
          rw [← hx] at HNum hset
          have HSet := hide hset
          have hkI : (k : Int) < (r.width : Int) := by omega
          have e1 : IntKind.i64.wrap (5 * (k : Int)) = ((5 * k : Nat) : Int) := by rw [IntWalk.i64_in _ ⟨by omega, by omega⟩]; omega
          have e2 : 5 * k ≤ 5 * r.width := by omega
          have e3 : ((5 * k : Nat) : Int) ≤ ((5 * r.width : Nat) : Int) := by omega
          clear hnum hset hLk hx
          go_wp2_with (go_at_call 123; refine Calls.mono HNum.out ?_; rintro e w3 ⟨rfl, rfl⟩)
          obtain ⟨_, cur, hbk⟩ := own_bk HL.out
          have h1 := own_putk (i := k) HL.out (.int .u64 (x : Nat))
          rw [HSet.out] at h1
          refine ⟨⟨k + 1, by go_num, by omega, hide h1, hide (own_set HO.out (p := ⟨w2.heap.size, k, none⟩) (fun e => own_ne HO.out hbk (by decide) e.symm) _), hide (HA2.out.far hbk u64_not k _), hide (Bk.far HR2.out (p := ⟨w2.heap.size, k, none⟩) (fun e => Bk.ne_ HR2.out hbk (by decide) e) _), hide (Fr.setCell HG.out (p := ⟨w2.heap.size, k, none⟩) (.inr hsz2) _)⟩, by simp [intOf]; omega⟩
        · have hkn : k = r.width := by omega
          have hkI : ¬ (k : Int) < (r.width : Int) := by omega
          go_wp2_with fail
          refine bodyPost_ret (v := .tuple #[.slice (some ⟨w2.heap.size, 0, none⟩) r.width r.width, .bool true]) (by simp [results, Tryz.results81, go_sem]) rfl ?_
          refine ⟨HA2.out, HR2.out, HG.out, ?_⟩
          have h5 := HL.out
          rw [hkn, partN_all, hL] at h5
          exact ⟨_, _, rfl, h5⟩
end Go.Proofs.YtmopegpkoedgbaaGreatDoor
/- Walk: (*recs.Writer).Raw. -/
namespace Go.Proofs.YtmopegpkoedgbaaGreatDoor
open Go.RowKit Go.Sort

theorem own_gfx8 {B : Fld} {p g : Nat} {r : Wtr} {w w' : World} {base n : Nat} {v : Value} {xs : List Value} (ho : w.ownsRow base 5 1 v n xs) (h : GFr g B w w') (hr : WrAt w p g r) : w'.ownsRow base 5 1 v n xs :=
  own_gfr ho h u8_not fun k hk e => own_ne ho hr (by decide) (by rw [hk, e])
/-- A part of a row of bytes, as a string. -/
theorem conv_part {w : World} {base g c cc off k : Nat} {s : ByteArray} (h : w.ownsRow base 5 1 (.slice (some ⟨g, 0, none⟩) s.size c) s.size (vby (strL s))) (hk : off + k ≤ s.size) : (convert 99 9 (.slice (some ⟨g, off, none⟩) k cc)).run Tryz.prog w = .ok (.string (s.extract off (off + k))) w := by
  have hz : (s.extract off (off + k)).size = k := by rw [ByteArray.size_extract]; omega
  have hr : Rd w w.heap.size (some ⟨g, off, none⟩) (vby (strL (s.extract off (off + k)))) := fun i u hu => by
    have hi : i < k := by
      have := (List.getElem?_eq_some_iff.1 hu).1
      rw [vby_length, strL_length, hz] at this
      exact this
    refine ⟨g, off, rfl, own_lt h g rfl, ?_⟩
    have hu2 : u = .int .u8 (byt s (off + i) : Nat) := by
      unfold vby at hu
      rw [List.getElem?_map, bytes_part hk] at hu
      rw [List.getElem?_map, List.getElem?_range hi] at hu
      exact (Option.some.inj hu).symm
    rw [hu2]
    exact own_byte h (by omega)
  have := run_conv Tryz.prog w 99 5 Tryz.underlying99 Tryz.underlying5 9 Tryz.underlying9 hr cc
  rw [strL_length, strOf_strL, hz] at this
  exact this
set_option maxRecDepth 100000 in
set_option maxHeartbeats 8000000 in
theorem raw_any (B : Fld) (p g base c : Nat) (A : Option Addr) (s : ByteArray) (a : Ar) (x : Wtr) (w : World) (ha : ArAt w B p a) (hv : InvA a) (hx : WrAt w p g x) (hh : HeldX a x) (hat : x.at_ ≤ 100000000) (hs : s.size ≤ 100000) (ho : w.ownsRow base 5 1 (.slice A s.size c) s.size (vby (strL s))) :
    Calls Tryz.prog 132 #[.pointer (some ⟨g, 0, none⟩), .slice A s.size c] w fun e w' => e = .returned (.int .i64 (wraw (s.size + 1) s a x).2.2) ∧ ArAt w' B p (wraw (s.size + 1) s a x).1 ∧ WrAt w' p g (wraw (s.size + 1) s a x).2.1 ∧ GFr g B w w' := by
  obtain ⟨R, hR⟩ : ∃ R, R = wraw (s.size + 1) s a x := ⟨_, rfl⟩
  rw [← hR]
  obtain ⟨n, hn⟩ : ∃ n, n = s.size := ⟨_, rfl⟩
  have hnc : n ≤ c := by
    rcases ho.2 with ⟨h1, h2⟩ | ⟨g', cap, cur, h1, _, _, h2, _⟩
    · omega
    · simp only [Value.slice.injEq] at h1; omega
  have hA : 0 < n → ∃ bb, A = some ⟨bb, 0, none⟩ := fun h => by
    obtain ⟨bb, h1, _⟩ := own_some ho (by omega)
    exact ⟨bb, h1⟩
  have hex : s = s.extract 0 n := by rw [hn, ByteArray.extract_zero_size]
  have hR2 : R = wraw (n + 1) (s.extract 0 n) a x := by rw [hR, ← hex, hn]
  rw [← hn] at ho hs ⊢
  have HN := hide hn
  have HR := hide hR2
  have HA := hide ha
  have HX := hide hx
  have HV := hide hv
  have HH := hide hh
  have HO := hide ho
  have HAd := hide hA
  clear hR hR2 ha hx hv hh ho hA hex hn
  go_enter Tryz.func132, Tryz.ntmps132
  go_wp2_with fail
  go_loopw [1] (fun s1 wr => ∃ (f off m c1 : Nat) (A1 : Option Addr) (a1 : Ar) (x1 : Wtr), s1 = .slice A1 m c1 ∧ off + m = n ∧ off + c1 = c ∧ m < f ∧ Hid (0 < m → ∃ bb, A = some ⟨bb, 0, none⟩ ∧ A1 = some ⟨bb, off, none⟩) ∧ Hid (R = wraw f (s.extract off n) a1 x1) ∧ x1.at_ ≤ 100000000 + off ∧ Hid (InvA a1) ∧ Hid (HeldX a1 x1) ∧ Hid (ArAt wr B p a1) ∧ Hid (WrAt wr p g x1) ∧ Hid (GFr g B w wr) ∧ Hid (wr.ownsRow base 5 1 (.slice A n c) n (vby (strL s)))) (fun s1 _ => lenV s1)
  case atStart => exact ⟨n + 1, 0, n, c, A, a, x, rfl, by omega, by omega, by omega, hide (fun h => by obtain ⟨bb, e⟩ := HAd.out h; exact ⟨bb, e, e⟩), HR, by omega, HV, HH, HA, HX, hide (GFr.refl _ _ _), HO⟩
  case round =>
    clear HR HA HX HV HH HO HAd
    obtain ⟨f, off, m, c1, A1, a1, x1, rfl, hoff, hcap, hf, HAd, HR, hat1, HV, HH, HA, HX, HG, HO⟩ := hrel
    by_cases hm : 0 < m
    · obtain ⟨f, rfl⟩ : ∃ k, f = k + 1 := ⟨f - 1, by omega⟩
      obtain ⟨bb, rfl, rfl⟩ := HAd.out hm
      have hsz : (s.extract off n).size = m := by rw [ByteArray.size_extract, ← HN.out]; omega
      obtain ⟨q1, q2, q3, q4, q5, q6, q7, q8⟩ := wpin_sp HV.out HH.out
      have hr := HR.out
      rw [wraw_step, if_neg (by omega)] at hr
      obtain ⟨sec, hsec⟩ : ∃ sec, sec = 1 + x1.at_ / 64 := ⟨_, rfl⟩
      have hcl := wclose_any B p g a1 x1 wr HA.out HX.out HH.out.lt
      rw [wclose_two] at hcl
      have hci := wclose_inv HV.out x1
      have hwA : sec = x1.held → wpin a1 x1 = (a1, x1, 0) := fun h => by unfold wpin; rw [← hsec, if_pos h]
      obtain ⟨b1, hb1⟩ : ∃ b1, b1 = (wclose a1 x1).1 := ⟨_, rfl⟩
      have hwB : sec ≠ x1.held → wpin a1 x1 = if (pinA b1 x1.name (sec : Nat)).2.2 ≠ 0 then ((pinA b1 x1.name (sec : Nat)).1, { x1 with held := 0 }, (pinA b1 x1.name (sec : Nat)).2.2) else ((pinA b1 x1.name (sec : Nat)).1, { x1 with held := sec, frame := (pinA b1 x1.name (sec : Nat)).2.1 }, 0) := fun h => by
        unfold wpin
        rw [← hsec, if_neg h, ← hb1, wclose_two]
      rw [← hb1] at hcl hci
      have hpn := fun (W : World) (h : ArAt W B p b1) => pin_any B p x1.name (sec : Nat) b1 W h hci
      obtain ⟨P, hP⟩ : ∃ P, P = pinA b1 x1.name (sec : Nat) := ⟨_, rfl⟩
      rw [← hP] at hpn hwB
      obtain ⟨b2, fi, z⟩ := P
      obtain ⟨W, hW⟩ : ∃ W, W = wpin a1 x1 := ⟨_, rfl⟩
      rw [← hW] at hr q1 q3 q4 q5 hwA hwB
      obtain ⟨a2, x2, e2⟩ := W
      dsimp only at hr q1 q3 q4 q5 hpn hwA hwB
      obtain ⟨dv, hdv⟩ : ∃ dv, dv = x1.at_ / 64 := ⟨_, rfl⟩
      have hd : (x1.at_ : Int) / 64 = (dv : Int) := by omega
      have hw1 : (1 : Int) + (dv : Int) = (sec : Int) := by omega
      have hmI : (0 : Int) < (m : Int) := by omega
      obtain ⟨o, ho⟩ : ∃ o, o = x1.at_ % 64 := ⟨_, rfl⟩
      have hoI : (x1.at_ : Int) % 64 = (o : Int) := by omega
      have hoN : x1.at_ % 64 = o := ho.symm
      have ho64 : o < 64 := by omega
      obtain ⟨k, hk⟩ : ∃ k, k = min m (64 - o) := ⟨_, rfl⟩
      have hkI : min (m : Int) (64 - (o : Int)) = (k : Int) := by omega
      have hk1 : 0 < k := by omega
      have hkeq : min m (64 - o) = k := hk.symm
      have hk2 : k ≤ m := by omega
      have hk3 : o + k ≤ 64 := by omega
      have hkc : k ≤ c1 := by omega
      have hkcI : (k : Int) ≤ (c1 : Int) := by omega
      have hkmI : (k : Int) ≤ (m : Int) := by omega
      have hD : (s.extract off n).extract 0 k = s.extract off (off + k) := by
        rw [ByteArray.extract_extract]
        congr 1 <;> omega
      have hE : (s.extract off n).extract k m = s.extract (off + k) n := by
        rw [ByteArray.extract_extract]
        congr 1 <;> omega
      have hDz : (s.extract off (off + k)).size = k := by rw [ByteArray.size_extract, ← HN.out]; omega
      have hcvA : ∀ (W : World) (cc : Nat), W.ownsRow base 5 1 (.slice (some ⟨bb, 0, none⟩) n c) n (vby (strL s)) → (convert 99 9 (.slice (some ⟨bb, off, none⟩) k cc)).run Tryz.prog W = .ok (.string (s.extract off (off + k))) W := fun W cc h => conv_part (by rw [← HN.out]; exact h) (by rw [← HN.out]; omega)
      rw [hsz] at hr
      obtain ⟨c0, c1', c2, c3, c4, c5, c6⟩ := seven_cells HX.out
      have hgl := HX.out.lt
      have HCl := hide hcl
      have HPn := hide hpn
      have HRr := hide hr
      have HD := hide hD
      have HE := hide hE
      have HCv := hide hcvA
      have HV2 := hide q1
      have HH2 := hide q3
      have HH4 := hide q4
      have HAt := hide q5
      have HWA := hide hwA
      have HWB := hide hwB
      clear hcl hpn hr q1 q2 q3 q4 q5 q6 q7 q8 hwA hwB hci hP hW hb1 hsec hdv HR hD hE hcvA ho hk
      have key : (sec = x1.held ∧ a2 = a1 ∧ x2 = x1 ∧ e2 = 0) ∨ (sec ≠ x1.held ∧ z = 0 ∧ a2 = b2 ∧ x2 = { x1 with held := sec, frame := fi } ∧ e2 = 0) ∨ (sec ≠ x1.held ∧ z ≠ 0 ∧ a2 = b2 ∧ x2 = { x1 with held := 0 } ∧ e2 = z) := by
        by_cases h : sec = x1.held
        · have := HWA.out h
          simp only [Prod.mk.injEq] at this
          exact .inl ⟨h, this⟩
        · have := HWB.out h
          by_cases hz : z = 0
          · rw [if_neg (by simp [hz])] at this
            simp only [Prod.mk.injEq] at this
            exact .inr (.inl ⟨h, hz, this⟩)
          · rw [if_pos hz] at this
            simp only [Prod.mk.injEq] at this
            exact .inr (.inr ⟨h, hz, this⟩)
      clear HWA HWB
      rcases key with ⟨hs1, rfl, rfl, rfl⟩ | ⟨hs1, rfl, rfl, rfl, rfl⟩ | ⟨hs1, hz, rfl, rfl, rfl⟩
      · have hI : ((sec : Int) != (x2.held : Int)) = false := by simp; omega
        have hh := HH4.out (by first | rfl | trivial)
        have hfl := fun W (h : ArAt W B p a2) => fill_any B p x2.frame o (s.extract off (off + k)) a2 W h (hold_lt hh) (by rw [getF_data HV2.out hh]; omega) (by rw [getF_data HV2.out hh, hDz]; exact hk3)
        have hr := HRr.out
        rw [if_neg (by simp)] at hr
        simp only [hoN, hkeq, HD.out, HE.out] at hr
        obtain ⟨hiv, hkp⟩ := fillA_spec HV2.out (at_ := o) (data := s.extract off (off + k)) hh (by rw [hDz]; exact hk3)
        have HFl := hide hfl
        have HRq := hide hr
        have HIv := hide hiv
        have HHd := hide (HH2.out.kp hkp)
        clear hfl hr HRr hh hiv hkp
        have HCvW := HCv.out wr.drew c1 HO.out
        go_upto_region 11 with (fail)
        refine wp_region_still_tail 13 (by kernel_rfl) (by kernel_rfl) ?_
        simp only [List.take_succ_cons, List.take_zero, List.drop_succ_cons, List.drop_zero]
        change wpStill _ _ wr.drew _ _ _
        repeat still_step
        refine wpStill_nil ?_
        change wpList _ _ _ _ _ wr.drew
        by_cases hck : c1 = k
        · have hmk : m = k := by omega
          go_wp2_with (go_at_call 175; refine Calls.mono (HFl.out _ HA.out.drew) ?_; rintro e w5 ⟨rfl, ha5, hf5⟩; have hx5 := (show WrAt wr.drew p g _ from HX.out).afr hf5; obtain ⟨y0, y1, y2, y3, y4, y5, y6⟩ := seven_cells hx5; have z4 := Bk.free hx5 4; have hg5 := hx5.lt; have HA5 := hide ha5; have HX5 := hide hx5; have HF5 := hide hf5; clear ha5 hx5 hf5)
          have hr4 := Bk.set_ HX5.out 4 (.int .i64 (x2.at_ + k : Nat))
          have ho4 := own_set (own_afr (show World.ownsRow wr.drew _ _ _ _ _ _ from HO.out) HF5.out u8_not) (p := ⟨g, 4, none⟩) (fun e => own_ne (own_afr (show World.ownsRow wr.drew _ _ _ _ _ _ from HO.out) HF5.out u8_not) HX5.out (by decide) e.symm) (.int .i64 (x2.at_ + k : Nat))
          have HR4 := hide hr4
          have HO4 := hide ho4
          clear hr4 ho4
          exact ⟨⟨f, off + k, 0, 0, some ⟨bb, off, none⟩, _, _, rfl, by omega, by omega, by omega, hide (fun h => absurd h (by omega)), HRq, by first | omega | (show x2.at_ + k ≤ _; omega), HIv, hide HHd.out, hide (HA5.out.far HX5.out wr_not 4 _), hide HR4.out, hide ((HG.out.drew.trans (AFr.gfr HF5.out g)).set_ 4 _), hide HO4.out⟩, by simp [lenV]; omega⟩
        · have hck2 : ¬ (c1 = k) := hck
          go_wp2_with (go_at_call 175; refine Calls.mono (HFl.out _ HA.out.drew) ?_; rintro e w5 ⟨rfl, ha5, hf5⟩; have hx5 := (show WrAt wr.drew p g _ from HX.out).afr hf5; obtain ⟨y0, y1, y2, y3, y4, y5, y6⟩ := seven_cells hx5; have z4 := Bk.free hx5 4; have hg5 := hx5.lt; have HA5 := hide ha5; have HX5 := hide hx5; have HF5 := hide hf5; clear ha5 hx5 hf5)
          have hr4 := Bk.set_ HX5.out 4 (.int .i64 (x2.at_ + k : Nat))
          have ho4 := own_set (own_afr (show World.ownsRow wr.drew _ _ _ _ _ _ from HO.out) HF5.out u8_not) (p := ⟨g, 4, none⟩) (fun e => own_ne (own_afr (show World.ownsRow wr.drew _ _ _ _ _ _ from HO.out) HF5.out u8_not) HX5.out (by decide) e.symm) (.int .i64 (x2.at_ + k : Nat))
          have HR4 := hide hr4
          have HO4 := hide ho4
          clear hr4 ho4
          exact ⟨⟨f, off + k, m - k, c1 - k, some ⟨bb, off + k, none⟩, _, _, rfl, by omega, by omega, by omega, hide (fun h => ⟨bb, rfl, rfl⟩), HRq, by first | omega | (show x2.at_ + k ≤ _; omega), HIv, hide HHd.out, hide (HA5.out.far HX5.out wr_not 4 _), hide HR4.out, hide ((HG.out.drew.trans (AFr.gfr HF5.out g)).set_ 4 _), hide HO4.out⟩, by simp [lenV]; omega⟩
      · have hI : ((sec : Int) != (x1.held : Int)) = true := by simp; omega
        have hh := HH4.out (by first | rfl | trivial)
        have hfl := fun W (h : ArAt W B p a2) => fill_any B p fi o (s.extract off (off + k)) a2 W h (hold_lt hh) (by rw [getF_data HV2.out hh]; omega) (by rw [getF_data HV2.out hh, hDz]; exact hk3)
        have hr := HRr.out
        rw [if_neg (by simp)] at hr
        simp only [hoN, hkeq, HD.out, HE.out] at hr
        obtain ⟨hiv, hkp⟩ := fillA_spec HV2.out (at_ := o) (data := s.extract off (off + k)) hh (by rw [hDz]; exact hk3)
        have HFl := hide hfl
        have HRq := hide hr
        have HIv := hide hiv
        have HHd := hide (HH2.out.kp hkp)
        clear hfl hr HRr hh hiv hkp
        go_upto_region 5 with (go_at_call 133; refine Calls.mono HCl.out ?_; rintro e w1 ⟨rfl, ha1, hr1, hf1⟩; obtain ⟨d0, d1, d2, d3, d4, d5, d6⟩ := seven_cells hr1; have hg1 := hr1.lt; have HA1 := hide ha1; have HR1 := hide hr1; have HF1 := hide hf1; clear ha1 hr1 hf1)
        go_region_law (go_simp; go_at_call 174; refine Calls.mono (HPn.out _ HA1.out.drew) ?_; rintro e w2 ⟨rfl, ha2, hf2⟩; have hr2 := (show WrAt w1.drew p g _ from HR1.out).afr hf2; obtain ⟨t0, t1, t2, t3, t4, t5, t6⟩ := seven_cells hr2; have u5 := Bk.free hr2 5; have u6 := Bk.free hr2 6; have HA2 := hide ha2; have HR2 := hide hr2; have HF2 := hide hf2; clear ha2 hr2 hf2)
        all_goals
          go_upto_region 9 with (fail)
          obtain ⟨W5, hW5⟩ : ∃ W5, W5 = (w2.setCell ⟨g, 5, none⟩ (.int .i64 fi)).setCell ⟨g, 6, none⟩ (.int .i64 sec) := ⟨_, rfl⟩
          have k1 := Bk.set_ HR2.out 5 (.int .i64 fi)
          have k2 : WrAt W5 p g { x1 with held := sec, frame := fi } := by rw [hW5]; exact Bk.set_ k1 6 (.int .i64 sec)
          have k3 : ArAt W5 B p a2 := by rw [hW5]; exact (HA2.out.far HR2.out wr_not 5 _).far k1 wr_not 6 _
          have hg2 : GFr g B w w2 := (HG.out.trans HF1.out).drew.trans (AFr.gfr HF2.out g)
          have k4 : GFr g B w W5 := by rw [hW5]; exact (hg2.set_ 5 _).set_ 6 _
          have o1 := own_gfx8 HO.out HF1.out HX.out
          have o2 := own_afr (show World.ownsRow w1.drew _ _ _ _ _ _ from o1) HF2.out u8_not
          have o3 := own_set o2 (p := ⟨g, 5, none⟩) (fun e => own_ne o2 HR2.out (by decide) e.symm) (.int .i64 fi)
          have k5 : W5.ownsRow base 5 1 (.slice (some ⟨bb, 0, none⟩) n c) n (vby (strL s)) := by rw [hW5]; exact own_set o3 (p := ⟨g, 6, none⟩) (fun e => own_ne o3 k1 (by decide) e.symm) (.int .i64 sec)
          rw [← hW5]
          obtain ⟨v0, v1, v2, v3, v4, v5, v6⟩ := seven_cells k2
          have hg5l := k2.lt
          have HX6 := hide k2
          have HA6 := hide k3
          have HG6 := hide k4
          have HO6 := hide k5
          clear k1 k2 k3 k4 k5 hg2 o1 o2 o3 hW5
          have HCvW := HCv.out W5.drew c1 HO6.out
          go_upto_region 11 with (fail)
          refine wp_region_still_tail 13 (by kernel_rfl) (by kernel_rfl) ?_
          simp only [List.take_succ_cons, List.take_zero, List.drop_succ_cons, List.drop_zero]
          change wpStill _ _ W5.drew _ _ _
          repeat still_step
          refine wpStill_nil ?_
          change wpList _ _ _ _ _ W5.drew
          by_cases hck : c1 = k
          · have hmk : m = k := by omega
            go_wp2_with (go_at_call 175; refine Calls.mono (HFl.out _ HA6.out.drew) ?_; rintro e w5 ⟨rfl, ha5, hf5⟩; have hx5 := (show WrAt W5.drew p g _ from HX6.out).afr hf5; obtain ⟨y0, y1, y2, y3, y4, y5, y6⟩ := seven_cells hx5; have z4 := Bk.free hx5 4; have hg5 := hx5.lt; have HA5 := hide ha5; have HX5 := hide hx5; have HF5 := hide hf5; clear ha5 hx5 hf5)
            have hr4 := Bk.set_ HX5.out 4 (.int .i64 (x1.at_ + k : Nat))
            have ho4 := own_set (own_afr (show World.ownsRow W5.drew _ _ _ _ _ _ from HO6.out) HF5.out u8_not) (p := ⟨g, 4, none⟩) (fun e => own_ne (own_afr (show World.ownsRow W5.drew _ _ _ _ _ _ from HO6.out) HF5.out u8_not) HX5.out (by decide) e.symm) (.int .i64 (x1.at_ + k : Nat))
            have HR4 := hide hr4
            have HO4 := hide ho4
            clear hr4 ho4
            exact ⟨⟨f, off + k, 0, 0, some ⟨bb, off, none⟩, _, _, rfl, by omega, by omega, by omega, hide (fun h => absurd h (by omega)), HRq, by first | omega | (show x1.at_ + k ≤ _; omega), HIv, hide HHd.out, hide (HA5.out.far HX5.out wr_not 4 _), hide HR4.out, hide ((HG6.out.drew.trans (AFr.gfr HF5.out g)).set_ 4 _), hide HO4.out⟩, by simp [lenV]; omega⟩
          · have hck2 : ¬ (c1 = k) := hck
            go_wp2_with (go_at_call 175; refine Calls.mono (HFl.out _ HA6.out.drew) ?_; rintro e w5 ⟨rfl, ha5, hf5⟩; have hx5 := (show WrAt W5.drew p g _ from HX6.out).afr hf5; obtain ⟨y0, y1, y2, y3, y4, y5, y6⟩ := seven_cells hx5; have z4 := Bk.free hx5 4; have hg5 := hx5.lt; have HA5 := hide ha5; have HX5 := hide hx5; have HF5 := hide hf5; clear ha5 hx5 hf5)
            have hr4 := Bk.set_ HX5.out 4 (.int .i64 (x1.at_ + k : Nat))
            have ho4 := own_set (own_afr (show World.ownsRow W5.drew _ _ _ _ _ _ from HO6.out) HF5.out u8_not) (p := ⟨g, 4, none⟩) (fun e => own_ne (own_afr (show World.ownsRow W5.drew _ _ _ _ _ _ from HO6.out) HF5.out u8_not) HX5.out (by decide) e.symm) (.int .i64 (x1.at_ + k : Nat))
            have HR4 := hide hr4
            have HO4 := hide ho4
            clear hr4 ho4
            exact ⟨⟨f, off + k, m - k, c1 - k, some ⟨bb, off + k, none⟩, _, _, rfl, by omega, by omega, by omega, hide (fun h => ⟨bb, rfl, rfl⟩), HRq, by first | omega | (show x1.at_ + k ≤ _; omega), HIv, hide HHd.out, hide (HA5.out.far HX5.out wr_not 4 _), hide HR4.out, hide ((HG6.out.drew.trans (AFr.gfr HF5.out g)).set_ 4 _), hide HO4.out⟩, by simp [lenV]; omega⟩
      · have hI : ((sec : Int) != (x1.held : Int)) = true := by simp; omega
        have hzb : (e2 != 0) = true := by simp [hz]
        have hr := HRr.out
        rw [if_pos hz] at hr
        have HRq := hide hr
        clear hr HRr
        go_upto_region 5 with (go_at_call 133; refine Calls.mono HCl.out ?_; rintro e w1 ⟨rfl, ha1, hr1, hf1⟩; obtain ⟨d0, d1, d2, d3, d4, d5, d6⟩ := seven_cells hr1; have hg1 := hr1.lt; have HA1 := hide ha1; have HR1 := hide hr1; have HF1 := hide hf1; clear ha1 hr1 hf1)
        go_region_law (go_simp; go_at_call 174; refine Calls.mono (HPn.out _ HA1.out.drew) ?_; rintro e w2 ⟨rfl, ha2, hf2⟩; have hr2 := (show WrAt w1.drew p g _ from HR1.out).afr hf2; have HA2 := hide ha2; have HR2 := hide hr2; have HF2 := hide hf2; clear ha2 hr2 hf2)
        all_goals
          go_wp2_with fail
          go_ret
          rw [HRq.out]
          exact ⟨rfl, HA2.out, HR2.out, (HG.out.trans HF1.out).drew.trans (AFr.gfr HF2.out g)⟩
    · have hm0 : m = 0 := by omega
      obtain ⟨f, rfl⟩ : ∃ k, f = k + 1 := ⟨f - 1, by omega⟩
      have hr := HR.out
      rw [wraw_step, if_pos (by rw [ByteArray.size_extract, ← HN.out]; omega)] at hr
      have hmI : ¬ (0 : Int) < (m : Int) := by omega
      have HRq := hide hr
      clear hr HR
      go_wp2_with fail
      go_ret
      rw [HRq.out]
      exact ⟨rfl, HA.out, HX.out, HG.out⟩
end Go.Proofs.YtmopegpkoedgbaaGreatDoor
/- Walk: (*recs.Writer).Put. -/
namespace Go.Proofs.YtmopegpkoedgbaaGreatDoor
open Go.RowKit Go.Sort

theorem five_byte (n : Nat) : ∀ b ∈ five n, b < 256 := by
  intro x hx
  simp only [five, List.mem_cons, List.not_mem_nil, or_false] at hx
  rcases hx with rfl | rfl | rfl | rfl | rfl <;> omega
theorem flat_byte (l : List Nat) : ∀ b ∈ l.flatMap five, b < 256 := fun b hb => by
  obtain ⟨n, _, hn⟩ := List.mem_flatMap.1 hb
  exact five_byte n b hn
/-- A cell of a row of numbers. -/
theorem own_num {w : World} {base c : Nat} {A : Option Addr} {l : List Nat} (h : w.ownsRow base 27 1 (.slice A l.length c) l.length (vu64 l)) {i x : Nat} (hx : l[i]? = some x) : ∃ b, A = some ⟨b, 0, none⟩ ∧ b < w.heap.size ∧ w.cell? ⟨b, i, none⟩ = some (.int .u64 (x : Nat)) := by
  have hi := (List.getElem?_eq_some_iff.1 hx).1
  obtain ⟨b, rfl, _⟩ := own_some h (by omega)
  refine ⟨b, rfl, own_lt h b rfl, ?_⟩
  have hv : (vu64 l)[i]? = some (.int .u64 (x : Nat)) := by
    unfold vu64
    rw [List.getElem?_map, hx]; rfl
  have := h.cells (g := b) rfl i _ hv
  rw [Addr.add_lit, Nat.zero_add] at this
  exact this
set_option maxRecDepth 100000 in
set_option maxHeartbeats 8000000 in
theorem wrput_any (B : Fld) (p g base c : Nat) (A : Option Addr) (l : List Nat) (a : Ar) (x : Wtr) (w : World) (ha : ArAt w B p a) (hv : InvA a) (hx : WrAt w p g x) (hh : HeldX a x) (hat : x.at_ ≤ 100000000) (hct : x.count ≤ 1000000000) (hl : l.length ≤ 1000) (ho : w.ownsRow base 27 1 (.slice A l.length c) l.length (vu64 l)) :
    Calls Tryz.prog 94 #[.pointer (some ⟨g, 0, none⟩), .slice A l.length c] w fun e w' => e = .returned (.int .i64 (wput a x l).2.2) ∧ ArAt w' B p (wput a x l).1 ∧ WrAt w' p g (wput a x l).2.1 ∧ GFr g B w w' := by
  obtain ⟨R, hRw⟩ : ∃ R, R = wput a x l := ⟨_, rfl⟩
  rw [← hRw]
  have HRw := hide hRw
  clear hRw
  obtain ⟨i0, hi, hz0, hz1, hz2⟩ := info_parts info_byte
  obtain ⟨m5, hm5⟩ : ∃ m5, m5 = 5 * l.length := ⟨_, rfl⟩
  obtain ⟨w1, hmk, hown, hgr⟩ := run_make_own (P := Tryz.prog) w w.heap.size 99 5 i0 (.int .u8 0) 1 Tryz.underlying99 hi hz0 hz1 .i64 .i64 m5 (by rw [hz2]; omega) (by unfold maxLen; omega) (Nat.le_refl _)
  obtain ⟨v0, hv0⟩ : ∃ v : Value, v = .slice (some ⟨w.heap.size, 0, none⟩) 0 m5 := ⟨_, rfl⟩
  rw [← hv0] at hmk hown
  clear hv0
  have hbe1 : RowKit.Below w.heap.size w w1 := (Below.refl _ _).grown hgr (Nat.le_refl _) (fun g hg => by cases hg)
  have hw5 : 5 * (l.length : Int) = (m5 : Int) := by omega
  have hm5' : m5 ≤ 5000 := by omega
  clear hm5
  have HB1 := hide hbe1
  have HA := hide ha
  have HX := hide hx
  have HO := hide ho
  have HOwn := hide hown
  have HV := hide hv
  have HH := hide hh
  clear hown hbe1 hgr ha hx ho hv hh
  go_enter Tryz.func94, Tryz.ntmps94
  go_wp2_with fail
  go_loopw [5, 15] (fun s5 s15 wr => ∃ k : Nat, s15 = .int .i64 k ∧ k ≤ l.length ∧ Hid (wr.ownsRow w.heap.size 5 1 s5 (5 * k) (vby ((l.take k).flatMap five))) ∧ Hid (RowKit.Below w.heap.size w wr)) (fun _ s15 _ => l.length - (intOf s15).toNat)
  case atStart => exact ⟨0, rfl, Nat.zero_le _, HOwn, HB1⟩
  case round =>
    clear HOwn HB1
    obtain ⟨k, rfl, hk, HR, HB⟩ := hrel
    by_cases hlt : k < l.length
    · obtain ⟨n, hn⟩ : ∃ n, l[k]? = some n := ⟨l[k], List.getElem?_eq_getElem hlt⟩
      obtain ⟨b, rfl, hbl, hc0⟩ := own_num HO.out hn
      have hcl : wr.cell? ⟨b, k, none⟩ = some (.int .u64 (n : Nat)) := (HB.out.cell (p := ⟨b, k, none⟩) hbl).trans hc0
      have hst : (l.take (k + 1)).flatMap five = (l.take k).flatMap five ++ five n := by
        rw [List.take_add_one, hn, List.flatMap_append]; simp
      obtain ⟨a0, a1, a2, a3, a4, h5⟩ : ∃ a0 a1 a2 a3 a4, five n = [a0, a1, a2, a3, a4] := ⟨_, _, _, _, _, rfl⟩
      rw [h5] at hst
      have hfv : ∀ W, Calls Tryz.prog 108 #[.int .u64 n] W fun e w' => e = .returned (.agg #[.int .u8 a0, .int .u8 a1, .int .u8 a2, .int .u8 a3, .int .u8 a4]) ∧ Below W.heap.size W w' := fun W => by
        have := five_any n W
        unfold fiveV at this
        rw [h5] at this
        exact this
      have HFv := hide hfv
      have HSt := hide hst
      have hkI : (k : Int) < (l.length : Int) := by omega
      clear hfv hst h5 hn hc0
      go_wp2_with (first
        | (go_at_call 108; refine Calls.mono (HFv.out _) ?_; rintro e w2 ⟨rfl, hb2⟩; have HB2 := hide hb2; have HR2 := hide (own_keep HR.out (btrans hb2 (ba1 w2 (.cells #[.int .u8 a0, .int .u8 a1, .int .u8 a2, .int .u8 a3, .int .u8 a4] 169)))); have hbx : w.heap.size ≤ (w2.alloc (.cells #[.int .u8 a0, .int .u8 a1, .int .u8 a2, .int .u8 a3, .int .u8 a4] 169)).heap.size := Nat.le_trans HB.out.size (Nat.le_trans hb2.size (by simp)); clear hb2)
        | (at_builtin; refine wpList_append_own _ rfl (.tmp 21) (.tmp 22) 99 rfl w.heap.size 5 i0 (.int .u8 0) 1 1 Tryz.underlying99 hi hz0 hz1 hz2 rfl (by decide) _ _ _ rfl HR2.out ⟨w2.heap.size, 0, none⟩ 5 5 [.int .u8 a0, .int .u8 a1, .int .u8 a2, .int .u8 a3, .int .u8 a4] rfl rfl (cells_new w2 _ _) (by intro u hu; simp at hu; rcases hu with rfl | rfl | rfl | rfl | rfl <;> rfl) (by unfold maxLen; omega) (by omega) hbx ?_; intro v3 w3 hown3 hgr3 _; have HR3 := hide hown3; have HG3 := hide hgr3; clear hown3 hgr3))
      refine ⟨⟨k + 1, by go_num, by omega, hide ?_, hide ((btrans HB.out (btrans HB2.out (ba1 _ _))).grown HG3.out hbx (fun g hg => (HR2.out.lt g hg).1))⟩, by simp [intOf]; omega⟩
      rw [HSt.out, vby_app]
      exact HR3.out
    · have hkl : k = l.length := by omega
      have hR := HR.out
      rw [hkl, List.take_length] at hR
      have hkI : ¬ (k : Int) < (l.length : Int) := by omega
      obtain ⟨A5, c5, rfl⟩ := own_formk hR
      obtain ⟨S, hS⟩ : ∃ S, S = strOf (l.flatMap five) := ⟨_, rfl⟩
      have hSz : S.size = 5 * l.length := by rw [hS, strOf_size, flat_five]
      have hSl : strL S = l.flatMap five := by rw [hS]; exact strL_of (flat_byte l)
      have hraw := fun (W : World) (h1 : ArAt W B p a) (h2 : WrAt W p g { x with count := x.count + 1 }) (h3 : W.ownsRow w.heap.size 5 1 (.slice A5 S.size c5) S.size (vby (strL S))) => raw_any B p g w.heap.size c5 A5 S a { x with count := x.count + 1 } W h1 HV.out h2 HH.out hat (by omega) h3
      have hRe : R = wraw (S.size + 1) S a { x with count := x.count + 1 } := by rw [HRw.out]; unfold wput; rw [hS]
      rw [← hRe] at hraw
      rw [hSz, hSl] at hraw
      have hx1 := HX.out.keep HB.out
      obtain ⟨c0, c1, c2, c3, c4, c5', c6⟩ := seven_cells hx1
      have hgl := hx1.lt
      have f3 := Bk.free hx1 3
      have hx2 : WrAt (wr.setCell ⟨g, 3, none⟩ (.int .u64 ((x.count : Int) + 1))) p g { x with count := x.count + 1 } := Bk.set_ hx1 3 _
      have ha2 := (HA.out.keep HB.out).far hx1 wr_not 3 (.int .u64 ((x.count : Int) + 1))
      have ho2 := own_set hR (p := ⟨g, 3, none⟩) (fun e => own_ne hR hx1 (by decide) e.symm) (.int .u64 ((x.count : Int) + 1))
      have HRaw := hide (hraw _ ha2 hx2 ho2)
      have HG := hide (((GFr.below HB.out : GFr g B w wr)).set_ 3 (.int .u64 ((x.count : Int) + 1)))
      clear hraw hx1 hx2 ha2 ho2 hR hRe hS hSz hSl HR
      go_wp2_with (go_at_call 132; refine Calls.mono HRaw.out ?_; rintro e w2 ⟨rfl, q1, q2, q3⟩; have HA2 := hide q1; have HX2 := hide q2; have HG2 := hide q3; clear q1 q2 q3)
      go_ret
      exact ⟨rfl, HA2.out, HX2.out, HG.out.trans HG2.out⟩
end Go.Proofs.YtmopegpkoedgbaaGreatDoor
/- Walk: (*recs.Writer).Seal. -/
namespace Go.Proofs.YtmopegpkoedgbaaGreatDoor
open Go.RowKit Go.Sort

theorem wseal_eq (a : Ar) (x : Wtr) : wseal a x = if (flushA (wclose a x).1).2 ≠ 0 then ((flushA (wclose a x).1).1, { x with held := 0 }, (flushA (wclose a x).1).2) else
    if (writeD (flushA (wclose a x).1).1.dev x.name 0 (headOf x.width (if x.width = 0 then x.at_ else x.count))).2 ≠ 0 then ({ (flushA (wclose a x).1).1 with dev := (writeD (flushA (wclose a x).1).1.dev x.name 0 (headOf x.width (if x.width = 0 then x.at_ else x.count))).1 }, { x with held := 0 }, (writeD (flushA (wclose a x).1).1.dev x.name 0 (headOf x.width (if x.width = 0 then x.at_ else x.count))).2)
    else ((dropA { (flushA (wclose a x).1).1 with dev := syncD (writeD (flushA (wclose a x).1).1.dev x.name 0 (headOf x.width (if x.width = 0 then x.at_ else x.count))).1, writes := inc64 (flushA (wclose a x).1).1.writes } x.name).1, { x with held := 0 }, (dropA { (flushA (wclose a x).1).1 with dev := syncD (writeD (flushA (wclose a x).1).1.dev x.name 0 (headOf x.width (if x.width = 0 then x.at_ else x.count))).1, writes := inc64 (flushA (wclose a x).1).1.writes } x.name).2) := by
  rw [← wclose_two a x]; rfl
set_option maxRecDepth 100000 in
set_option maxHeartbeats 8000000 in
theorem seal_any (B : Fld) (p g : Nat) (a : Ar) (x : Wtr) (w : World) (ha : ArAt w B p a) (hv : InvA a) (hx : WrAt w p g x) (hfr : 0 < x.held → x.frame < a.frames.length) (hw : x.width ≤ 8) (hat : x.at_ ≤ 1000000000) :
    Calls Tryz.prog 95 #[.pointer (some ⟨g, 0, none⟩)] w fun e w' => e = .returned (.int .i64 (wseal a x).2.2) ∧ ArAt w' B p (wseal a x).1 ∧ WrAt w' p g (wseal a x).2.1 ∧ GFr g B w w' := by
  have hcl := wclose_any B p g a x w ha hx hfr
  rw [wclose_two] at hcl
  have hci := wclose_inv hv x
  have hse := wseal_eq a x
  obtain ⟨R, hR⟩ : ∃ R, R = wseal a x := ⟨_, rfl⟩
  rw [← hR] at hse ⊢
  obtain ⟨b, hb⟩ : ∃ b, b = (wclose a x).1 := ⟨_, rfl⟩
  rw [← hb] at hcl hci hse
  obtain ⟨cn, hcn⟩ : ∃ cn, cn = if x.width = 0 then x.at_ else x.count := ⟨_, rfl⟩
  rw [← hcn] at hse
  have hfl := fun (W : World) (h : ArAt W B p b) => flush_any B p b W h hci
  have hfi := (flushA_spec hci).1
  obtain ⟨F, hF⟩ : ∃ F, F = flushA b := ⟨_, rfl⟩
  rw [← hF] at hfl hfi hse
  obtain ⟨a2, e2⟩ := F
  dsimp only at hfl hfi hse
  have hho := fun W => headOf_any x.width cn W (by omega)
  obtain ⟨H, hH⟩ : ∃ H, H = headOf x.width cn := ⟨_, rfl⟩
  rw [← hH] at hho hse
  have hwd := fun (q : Nat) (W : World) (h : DvAt W B q a2.dev) => write_disk B q a2.dev x.name 0 H W h hfi.dev
  have hwr := writeD_right hfi.dev x.name 0 H
  obtain ⟨D, hD⟩ : ∃ D, D = writeD a2.dev x.name 0 H := ⟨_, rfl⟩
  rw [← hD] at hwd hwr hse
  obtain ⟨d3, e3⟩ := D
  dsimp only at hwd hwr hse
  have hsy := fun (q : Nat) (W : World) (h : DvAt W B q d3) => sync_disk B q d3 W h hwr
  have HCl := hide hcl
  have HFl := hide hfl
  have HHo := hide hho
  have HWd := hide hwd
  have HSy := hide hsy
  have HSe := hide hse
  have hcw : x.width = 0 → cn = x.at_ := fun h => by rw [hcn, if_pos h]
  have hcw2 : x.width ≠ 0 → cn = x.count := fun h => by rw [hcn, if_neg h]
  clear ha hx hv hfr hcl hfl hho hwd hsy hse hR hb hcn hF hH hD hfi hwr hci
  have hgo : (x.width = 0 ∧ cn = x.at_ ∧ ((x.width : Int) == 0) = true) ∨ (0 < x.width ∧ cn = x.count ∧ ((x.width : Int) == 0) = false) := by
    rcases Nat.eq_zero_or_pos x.width with h | h
    · exact .inl ⟨h, hcw h, by rw [h]; rfl⟩
    · exact .inr ⟨h, hcw2 (by omega), by simp; omega⟩
  clear hcw hcw2
  have hu : IntKind.u64.wrap (x.at_ : Int) = (x.at_ : Int) := by rw [IntKind.wrap_u64]; omega
  go_enter Tryz.func95, Tryz.ntmps95
  go_upto_if 16 with (go_at_call 133; refine Calls.mono HCl.out ?_; rintro e w1 ⟨rfl, q1, q2, q3⟩; obtain ⟨c0, c1, c2, c3, c4, c5, c6⟩ := seven_cells q2; have hg1 := q2.lt; have HA1 := hide q1; have HX1 := hide q2; have HG1 := hide q3; clear q1 q2 q3)
  go_cut [3] (fun s3 wx => s3 = .int .u64 cn ∧ w1 = wx)
  case first =>
    rcases hgo with ⟨hw0, hcx, hwb⟩ | ⟨hw0, hcx, hwb⟩
    · go_wp2_with fail
      go_meet
      exact ⟨by rw [hcx], rfl⟩
    · go_wp2_with fail
      go_meet
      exact ⟨by rw [hcx], rfl⟩
  case rest =>
    obtain ⟨rfl, rfl⟩ := hcut
    by_cases h2 : e2 = 0
    · subst h2
      have hse := HSe.out
      rw [if_neg (by simp)] at hse
      go_upto_region 8 with (go_at_call 134; refine Calls.mono (HFl.out _ HA1.out) ?_; rintro e w2 ⟨rfl, q1, q2⟩; have hx2 := HX1.out.afr q2; obtain ⟨d0, d1, d2, d3', d4, d5, d6⟩ := seven_cells hx2; have hgl2 := hx2.lt; obtain ⟨q, fb, hk, hf, hd, hpp⟩ := q1; obtain ⟨y0, y1, y2, y3, y4, y5⟩ := six_cells hk; have hpl := hk.lt; have HK := hide hk; have HF := hide hf; have HD := hide hd; have HP := hide hpp; have HX2 := hide hx2; have HG2 := hide (HG1.out.trans (AFr.gfr q2 g)); clear q2 hk hf hd hpp hx2)
      have HSe2 := hide hse
      clear hse HSe HFl HCl
      go_cut [5] (fun s5 wx => s5 = .int .i64 e3 ∧ Hid (Bk wx p 136 #[.pointer (some ⟨q, 0, none⟩), .slice (some ⟨fb, 0, none⟩) a2.frames.length a2.frames.length, .int .u64 a2.tick, .int .u64 a2.reads, .int .u64 a2.writes, .int .i64 a2.peak]) ∧ Hid (Bk wx fb 233 (flatF a2.frames).toArray) ∧ Hid (DvAt wx B q d3) ∧ Hid (WrAt wx p g { x with held := 0 }) ∧ Hid (GFr g B w wx))
      case first =>
       go_region_law (first
         | (go_simp; go_at_call 113; refine Calls.mono (HHo.out _) ?_; rintro e w3 ⟨rfl, hb3⟩; have hx3 := (show WrAt w2.drew p g _ from HX2.out).keep hb3; obtain ⟨t0, t1, t2, t3, t4, t5, t6⟩ := seven_cells hx3; have hk3 := (show Bk w2.drew p _ _ from HK.out).keep hb3; obtain ⟨r0, r1, r2, r3, r4, r5⟩ := six_cells hk3; have hgl3 := hx3.lt; have hpl3 := hk3.lt; have HX3 := hide hx3; have HK3 := hide hk3; have HF3 := hide ((show Bk w2.drew fb _ _ from HF.out).keep hb3); have HD3 := hide ((show DvAt w2.drew B q _ from HD.out).keep hb3); have HG3 := hide (HG2.out.drew.trans (GFr.below hb3)); clear hb3 hx3 hk3)
         | (go_simp; go_at_call 112; refine Calls.mono (HWd.out q _ HD3.out) ?_; rintro e w4 ⟨rfl, hd4, hf4⟩; have hx4 := HX3.out.afr (hf4.wide fun _ => dty_a); obtain ⟨u0, u1, u2, u3, u4, u5, u6⟩ := seven_cells hx4; have hk4 := HK3.out.afr hf4 nd_arena; obtain ⟨s0, s1, s2, s3, s4, s5⟩ := six_cells hk4; have f4 := hk4.free 4; have hgl4 := hx4.lt; have hpl4 := hk4.lt; have HX4 := hide hx4; have HK4 := hide hk4; have HF4 := hide (HF3.out.afr hf4 nd_frame); have HD4 := hide hd4; have HG4 := hide (HG3.out.trans (AFr.gfr (hf4.wide fun _ => dty_a) g)); clear hx4 hk4 hd4 hf4))
       all_goals
        go_wp2_with fail
        go_meet
        exact ⟨rfl, HK4, HF4, HD4, HX4, HG4⟩
      case rest =>
        obtain ⟨rfl, HK4, HF4, HD4, HX4, HG4⟩ := hcut
        obtain ⟨u0, u1, u2, u3, u4, u5, u6⟩ := seven_cells HX4.out
        obtain ⟨s0, s1, s2, s3, s4, s5⟩ := six_cells HK4.out
        have f4 := HK4.out.free 4
        have hgl4 := HX4.out.lt
        have hpl4 := HK4.out.lt
        have hse := HSe2.out
        by_cases h3 : e3 = 0
        · subst h3
          rw [if_neg (by simp)] at hse
          have hdr := fun (W : World) (h : ArAt W B p { a2 with dev := syncD d3, writes := inc64 a2.writes }) => drop_any B p x.name { a2 with dev := syncD d3, writes := inc64 a2.writes } W h
          obtain ⟨D, hD⟩ : ∃ D, D = dropA { a2 with dev := syncD d3, writes := inc64 a2.writes } x.name := ⟨_, rfl⟩
          rw [← hD] at hse hdr
          have HDr := hide hdr
          have HSe3 := hide hse
          have hw4 := inc_wrap a2.writes
          clear hdr hD hse HSe2
          go_upto_region 12 with (fail)
          obtain ⟨W5, hW5⟩ : ∃ W5, W5 = wc.setCell ⟨p, 4, none⟩ (.int .u64 (inc64 a2.writes : Nat)) := ⟨_, rfl⟩
          rw [← hW5]
          have k1 : Bk W5 p 136 #[.pointer (some ⟨q, 0, none⟩), .slice (some ⟨fb, 0, none⟩) a2.frames.length a2.frames.length, .int .u64 a2.tick, .int .u64 a2.reads, .int .u64 (inc64 a2.writes : Nat), .int .i64 a2.peak] := by rw [hW5]; exact HK4.out.set_ 4 _
          have k2 : Bk W5 fb 233 (flatF a2.frames).toArray := by rw [hW5]; exact HF4.out.far (p := ⟨p, 4, none⟩) (fun e => HF4.out.ne_ HK4.out (by decide) e) _
          have k3 : DvAt W5 B q d3 := by rw [hW5]; exact HD4.out.far HK4.out (by decide) (by decide) (by decide) 4 _
          have k4 : WrAt W5 p g { x with held := 0 } := by rw [hW5]; exact Bk.far HX4.out (p := ⟨p, 4, none⟩) (fun e => Bk.ne_ HX4.out HK4.out (by decide) e) _
          have k5 : GFr g B w W5 := by rw [hW5]; exact HG4.out.trans (AFr.gfr ((AFr.refl ATy B wc).set_ HK4.out HP.out.1 aty_arena 4 _) g)
          obtain ⟨v0, v1, v2, v3, v4, v5⟩ := six_cells k1
          obtain ⟨t0, t1, t2, t3, t4, t5, t6⟩ := seven_cells k4
          have hpl5 := k1.lt
          have hgl5 := k4.lt
          have hsy := HSy.out q W5 k3
          have HSy5 := hide hsy
          have HK5 := hide k1
          have HF5 := hide k2
          have HX5 := hide k4
          have HG5 := hide k5
          clear k1 k2 k3 k4 k5 hsy hW5
          go_upto_region 13 with (go_at_call 104; refine Calls.mono HSy5.out ?_; rintro e w6 ⟨rfl, hd6, hf6⟩; have hx6 := HX5.out.afr (hf6.wide fun _ => dty_a); obtain ⟨r0, r1, r2, r3, r4, r5, r6⟩ := seven_cells hx6; have hk6 := HK5.out.afr hf6 nd_arena; have hgl6 := hx6.lt; have hpl6 := hk6.lt; have HA6 := hide (show ArAt w6 B p { a2 with dev := syncD d3, writes := inc64 a2.writes } from ⟨q, fb, hk6, HF5.out.afr hf6 nd_frame, hd6, HP.out⟩); have HX6 := hide hx6; have HG6 := hide (HG5.out.trans (AFr.gfr (hf6.wide fun _ => dty_a) g)); clear hx6 hk6 hd6 hf6)
          go_region_law (go_simp; go_at_call 135; refine Calls.mono (HDr.out _ (ArAt.drew HA6.out)) ?_; rintro e w7 ⟨rfl, ha7, hf7⟩; have HA7 := hide ha7; have HX7 := hide ((show WrAt w6.drew p g _ from HX6.out).afr hf7); have HG7 := hide (HG6.out.drew.trans (AFr.gfr hf7 g)); clear ha7 hf7)
          all_goals
            go_wp2_with fail
            go_ret
            rw [HSe3.out]
            exact ⟨rfl, HA7.out, HX7.out, HG7.out⟩
        · have h3b : (e3 != 0) = true := by simp [h3]
          rw [if_pos h3] at hse
          have HSe3 := hide hse
          clear hse HSe2
          go_wp2_with fail
          go_ret
          rw [HSe3.out]
          exact ⟨rfl, ⟨q, fb, HK4.out, HF4.out, HD4.out, HP.out⟩, HX4.out, HG4.out⟩
    · have h2b : (e2 != 0) = true := by simp [h2]
      have hse := HSe.out
      rw [if_pos h2] at hse
      have HSe2 := hide hse
      clear hse HSe
      go_wp2_with (go_at_call 134; refine Calls.mono (HFl.out _ HA1.out) ?_; rintro e w2 ⟨rfl, q1, q2⟩; have HX2 := hide (HX1.out.afr q2); have HA2 := hide q1; have HG2 := hide (HG1.out.trans (AFr.gfr q2 g)); clear q1 q2)
      go_ret
      rw [HSe2.out]
      exact ⟨rfl, HA2.out, HX2.out, HG2.out⟩
end Go.Proofs.YtmopegpkoedgbaaGreatDoor
/- Walk: (*recs.Reader).All, and a range over it. -/
namespace Go.Proofs.YtmopegpkoedgbaaGreatDoor
open Go.RowKit Go.Sort Go.Shelf

/-- A reader that goes on: what its next record asks for. -/
structure RdPre (W : World) (B : Fld) (p g bx : Nat) (a : Ar) (r : Rdr) : Prop where
  ar : ArAt W B p a
  inv : InvA a
  rd : RdAt W p g r
  held : HeldW a r
  lo : 1 ≤ r.width
  hi : r.width ≤ 8
  count : r.count ≤ 65536
  at_ : r.at_ ≤ 10000000
  box : Bk W bx 123 #[.pointer (some ⟨g, 0, none⟩)]
/-- What the next record leaves behind. -/
structure RdPost (W W' : World) (B : Fld) (p g bx : Nat) (a' : Ar) (r' : Rdr) : Prop where
  ar : ArAt W' B p a'
  rd : RdAt W' p g r'
  fr : GFr g B W W'
  box : Bk W' bx 123 #[.pointer (some ⟨g, 0, none⟩)]
end Go.Proofs.YtmopegpkoedgbaaGreatDoor
/- An operation in memory: words; (*flow.Work).From, To. -/
namespace Go.Proofs.YtmopegpkoedgbaaGreatDoor
open Go.RowKit Go.Sort

/-- An error that stands for a number. -/
def ErrV (w : World) (v : Value) (why : Int) : Prop := ∃ doing, FailAt w v doing why
theorem trouble_not : ¬ ATy 150 := by unfold ATy; decide
theorem ErrV.keep {w w' : World} {v : Value} {why : Int} (h : ErrV w v why) (hb : Below w.heap.size w w') : ErrV w' v why := by
  obtain ⟨d, h | ⟨h1, g, h2, h3⟩⟩ := h
  · exact ⟨d, .inl h⟩
  · exact ⟨d, .inr ⟨h1, g, h2, h3.keep hb⟩⟩
theorem ErrV.zero {w : World} {v : Value} (h : ErrV w v 0) : v = .nilIface := by
  obtain ⟨d, h | ⟨h1, _⟩⟩ := h
  · exact h.2
  · exact absurd rfl h1
theorem ErrV.not {w : World} {v : Value} {why : Int} (h : ErrV w v why) (hz : why ≠ 0) : ∃ g doing, v = .iface 148 (.pointer (some ⟨g, 0, none⟩)) ∧ Bk w g 150 #[.string doing, .iface 30 (.int .i64 why)] := by
  obtain ⟨d, h | ⟨_, g, h2, h3⟩⟩ := h
  · exact absurd h.1 hz
  · exact ⟨g, d, h2, h3⟩
/-- What else an operation bears: files made on the way, what parts of it took. -/
structure WkX where
  tv : Value
  mr : Nat
  mw : Nat
  mf : Int
def zeroX : WkX := ⟨.slice none 0 0, 0, 0, 0⟩
/-- An operation that goes on lies in block h: what the disk was lies in rows that no call writes. -/
def WkAt (w : World) (B : Fld) (h p : Nat) (was : Dsk) (X : WkX) : Prop := ∃ E0 W0, Bk w h 120 #[.pointer (some ⟨p, 0, none⟩), .int .i64 was.size, E0, W0, .int .i64 was.fuse, .bool was.down, X.tv, .int .u64 X.mr, .int .u64 X.mw, .int .i64 X.mf] ∧
  w.ownsRow 0 77 2 E0 was.exts.length (flatE was.exts) ∧ w.ownsRow 0 79 3 W0 was.waits.length (flatW was.waits) ∧ (∀ k, E0.ownBlock = some k → ¬ B.ok k) ∧ (∀ k, W0.ownBlock = some k → ¬ B.ok k)
theorem work_not : ¬ ATy 120 := by unfold ATy; decide
theorem WkAt.keep {w w' : World} {B : Fld} {h p : Nat} {was : Dsk} {X : WkX} (hw : WkAt w B h p was X) (hb : Below w.heap.size w w') : WkAt w' B h p was X := by
  obtain ⟨E0, W0, h1, h2, h3, h4⟩ := hw
  exact ⟨E0, W0, h1.keep hb, own_keep h2 hb, own_keep h3 hb, h4⟩
theorem WkAt.gfr {w w' : World} {B : Fld} {h p g : Nat} {was : Dsk} {X : WkX} {t : TypeId} {cs : Array Value} (hw : WkAt w B h p was X) (hf : GFr g B w w') (hg : Bk w g t cs) (t1 : 120 ≠ t) (t2 : 77 ≠ t) (t3 : 79 ≠ t) : WkAt w' B h p was X := by
  obtain ⟨E0, W0, h1, h2, h3, h4, h5⟩ := hw
  refine ⟨E0, W0, h1.gfr hf work_not (fun e => h1.ne_ hg t1 e), own_fr h2 hf fun k hk hs => ?_, own_fr h3 hf fun k hk hs => ?_, h4, h5⟩
  · rcases hs with e | hs
    · exact own_ne h2 hg t2 (by rw [hk, e])
    · exact h4 k hk hs.1
  · rcases hs with e | hs
    · exact own_ne h3 hg t3 (by rw [hk, e])
    · exact h5 k hk hs.1
theorem WkAt.afr {w w' : World} {B : Fld} {h p : Nat} {was : Dsk} {X : WkX} (hw : WkAt w B h p was X) (hf : AFr ATy B w w') : WkAt w' B h p was X := by
  obtain ⟨E0, W0, h1, h2, h3, h4, h5⟩ := hw
  exact ⟨E0, W0, h1.afr hf work_not, own_fr h2 hf fun k hk hs => h4 k hk hs.1, own_fr h3 hf fun k hk hs => h5 k hk hs.1, h4, h5⟩
theorem ten_cells {w : World} {g : Nat} {t : TypeId} {a b c d e f h i j l : Value} (k : Bk w g t #[a, b, c, d, e, f, h, i, j, l]) : w.cell? ⟨g, 0, none⟩ = some a ∧ w.cell? ⟨g, 1, none⟩ = some b ∧ w.cell? ⟨g, 2, none⟩ = some c ∧ w.cell? ⟨g, 3, none⟩ = some d ∧ w.cell? ⟨g, 4, none⟩ = some e ∧ w.cell? ⟨g, 5, none⟩ = some f ∧ w.cell? ⟨g, 6, none⟩ = some h ∧ w.cell? ⟨g, 7, none⟩ = some i ∧ w.cell? ⟨g, 8, none⟩ = some j ∧ w.cell? ⟨g, 9, none⟩ = some l := ⟨k.cell 0, k.cell 1, k.cell 2, k.cell 3, k.cell 4, k.cell 5, k.cell 6, k.cell 7, k.cell 8, k.cell 9⟩
set_option maxRecDepth 100000 in
set_option maxHeartbeats 8000000 in
theorem wfrom_any (B : Fld) (h p : Nat) (name : ByteArray) (was : Dsk) {X : WkX} (a : Ar) (w : World) (hw : WkAt w B h p was X) (ha : ArAt w B p a) (hv : InvA a) (hn : name.size ≤ 100000000) :
    Calls Tryz.prog 78 #[.pointer (some ⟨h, 0, none⟩), .string name] w fun e w' => ∃ pa ev, e = .returned (.tuple #[.pointer pa, ev]) ∧ ArAt w' B p (fromW a name).1 ∧ AFr ATy B w w' ∧ ErrV w' ev (fromW a name).2.2 ∧ ((fromW a name).2.2 = 0 → ∃ g, w.heap.size ≤ g ∧ pa = some ⟨g, 0, none⟩ ∧ RdAt w' p g (fromW a name).2.1) := by
  have hfr := from_any B p name a w ha hv
  have hfw : fromW a name = ({ a with reads := inc64 a.reads }, (fromA a name).1, if (fromA a name).2 = 0 ∧ (fromA a name).1.width = 0 then 7 else (fromA a name).2) := rfl
  rw [hfw]
  obtain ⟨F, hF⟩ : ∃ F, F = fromA a name := ⟨_, rfl⟩
  rw [← hF] at hfr ⊢
  obtain ⟨r, e1⟩ := F
  dsimp only at hfr ⊢
  obtain ⟨E0, W0, hwk, hw2⟩ := hw
  obtain ⟨c0, _⟩ := ten_cells hwk
  have hhl := hwk.lt
  have HA := hide ha
  have HFr := hide hfr
  have hfl := fun (d : ByteArray) (z : Int) W => fail_any d z W
  have hz5 : (⟨#[114, 101, 97, 100, 32]⟩ : ByteArray).size = 5 := rfl
  have hn5 : ¬ 9223372036854775807 < (⟨#[114, 101, 97, 100, 32]⟩ : ByteArray).size + name.size := by rw [hz5]; omega
  have HFl := hide hfl
  have hwr := inc_wrap a.reads
  clear hwk hw2 hF hfw hfr hv ha hfl
  have hst : ∀ w1 : World, RowKit.Below w.heap.size w w1 → ArAt (w1.setCell ⟨p, 3, none⟩ (.int .u64 (inc64 a.reads : Nat))) B p { a with reads := inc64 a.reads } ∧ AFr ATy B w (w1.setCell ⟨p, 3, none⟩ (.int .u64 (inc64 a.reads : Nat))) ∧ (w1.cell? ⟨p, 3, none⟩ = some (.int .u64 a.reads) ∧ w1.frozen? ⟨p, 3, none⟩ = false ∧ p < w1.heap.size) ∧ ∀ g r, w.heap.size ≤ g → RdAt w1 p g r → RdAt (w1.setCell ⟨p, 3, none⟩ (.int .u64 (inc64 a.reads : Nat))) p g r := fun w1 hb => by
    have ha1 := HA.out.keep hb
    obtain ⟨q, fb, hk, hf, hd, hp, hp2⟩ := ha1
    refine ⟨⟨q, fb, hk.set_ 3 _, hf.far (p := ⟨p, 3, none⟩) (fun e => hf.ne_ hk (by decide) e) _, hd.far hk (by decide) (by decide) (by decide) 3 _, hp, hp2⟩, (AFr.below hb).set_ hk hp aty_arena 3 _, ⟨hk.cell 3, hk.free 3, hk.lt⟩, fun g r hg hr => Bk.far hr (p := ⟨p, 3, none⟩) (fun e => Bk.ne_ hr hk (by decide) e) _⟩
  have HSt := hide hst
  clear hst
  by_cases h0 : e1 = 0
  · subst h0
    by_cases hw0 : r.width = 0
    · rw [if_pos ⟨rfl, hw0⟩]
      have hwI : ((r.width : Int) == 0) = true := by rw [hw0]; rfl
      have hwN : (r.width : Int) = 0 := by omega
      go_enter Tryz.func78, Tryz.ntmps78
      go_wp2_with (first
        | (go_at_call 120; refine Calls.mono HFr.out ?_; rintro e w1 ⟨hb1, _, h2⟩; obtain ⟨g, hg, rfl, hrd⟩ := h2 (by first | rfl | trivial); obtain ⟨k1, k2, ⟨k3, k4, k5⟩, k6⟩ := HSt.out w1 hb1; have hrd2 := k6 g _ hg hrd; obtain ⟨y0, y1, y2, y3, y4, y5, y6, y7⟩ := eight_cells hrd2; obtain ⟨z0, z1, z2, z3, z4, z5, z6, z7⟩ := eight_cells hrd; have hgl := hrd.lt; have c1 : w1.cell? ⟨h, 0, none⟩ = some (.pointer (some ⟨p, 0, none⟩)) := (hb1.cell (p := ⟨h, 0, none⟩) hhl).trans c0; have HA1 := hide k1; have HF1 := hide k2; have HR1 := hide hrd2; clear k1 k2 k6 hrd hrd2)
        | (go_at_call 56; refine Calls.mono (HFl.out _ _ _) ?_; rintro e w3 ⟨ev, rfl, he3, hb3⟩; have HE3 := hide he3; have HB3 := hide hb3; clear he3 hb3))
      refine bodyPost_ret (v := .tuple #[.pointer (some ⟨g, 0, none⟩), ev]) (by simp [results, Tryz.results78, go_sem]) rfl ?_
      exact ⟨_, _, rfl, HA1.out.keep HB3.out, HF1.out.trans (AFr.below HB3.out), ⟨_, HE3.out⟩, fun h => absurd h (by decide)⟩
    · rw [if_neg (fun h => hw0 h.2)]
      have hwI : ((r.width : Int) == 0) = false := by simp; omega
      have hwN : ¬ (r.width : Int) = 0 := by omega
      go_enter Tryz.func78, Tryz.ntmps78
      go_wp2_with (first
        | (go_at_call 120; refine Calls.mono HFr.out ?_; rintro e w1 ⟨hb1, _, h2⟩; obtain ⟨g, hg, rfl, hrd⟩ := h2 (by first | rfl | trivial); obtain ⟨k1, k2, ⟨k3, k4, k5⟩, k6⟩ := HSt.out w1 hb1; have hrd2 := k6 g _ hg hrd; obtain ⟨y0, y1, y2, y3, y4, y5, y6, y7⟩ := eight_cells hrd2; obtain ⟨z0, z1, z2, z3, z4, z5, z6, z7⟩ := eight_cells hrd; have hgl := hrd.lt; have c1 : w1.cell? ⟨h, 0, none⟩ = some (.pointer (some ⟨p, 0, none⟩)) := (hb1.cell (p := ⟨h, 0, none⟩) hhl).trans c0; have HA1 := hide k1; have HF1 := hide k2; have HR1 := hide hrd2; clear k1 k2 k6 hrd hrd2)
        | (go_at_call 56; refine Calls.mono (HFl.out _ _ _) ?_; rintro e w3 ⟨ev, rfl, he3, hb3⟩; have HE3 := hide he3; have HB3 := hide hb3; clear he3 hb3))
      refine bodyPost_ret (v := .tuple #[.pointer (some ⟨g, 0, none⟩), ev]) (by simp [results, Tryz.results78, go_sem]) rfl ?_
      exact ⟨_, _, rfl, HA1.out.keep HB3.out, HF1.out.trans (AFr.below HB3.out), ⟨_, HE3.out⟩, fun _ => ⟨g, hg, rfl, HR1.out.keep HB3.out⟩⟩
  · rw [if_neg (fun h => h0 h.1)]
    have hb : (e1 == 0) = false := by simp [h0]
    go_enter Tryz.func78, Tryz.ntmps78
    go_wp2_with (first
      | (go_at_call 120; refine Calls.mono HFr.out ?_; rintro e w1 ⟨hb1, h2, _⟩; obtain rfl := h2 h0; obtain ⟨k1, k2, ⟨k3, k4, k5⟩, _⟩ := HSt.out w1 hb1; have c1 : w1.cell? ⟨h, 0, none⟩ = some (.pointer (some ⟨p, 0, none⟩)) := (hb1.cell (p := ⟨h, 0, none⟩) hhl).trans c0; have HA1 := hide k1; have HF1 := hide k2; clear k1 k2)
      | (go_at_call 56; refine Calls.mono (HFl.out _ _ _) ?_; rintro e w3 ⟨ev, rfl, he3, hb3⟩; have HE3 := hide he3; have HB3 := hide hb3; clear he3 hb3))
    refine bodyPost_ret (v := .tuple #[.pointer none, ev]) (by simp [results, Tryz.results78, go_sem]) rfl ?_
    exact ⟨_, _, rfl, HA1.out.keep HB3.out, HF1.out.trans (AFr.below HB3.out), ⟨_, HE3.out⟩, fun h => absurd h h0⟩
set_option maxRecDepth 100000 in
set_option maxHeartbeats 8000000 in
theorem wto_any (B : Fld) (h p : Nat) (name : ByteArray) (width : Int) (room : Nat) (was : Dsk) {X : WkX} (a : Ar) (w : World) (hw : WkAt w B h p was X) (ha : ArAt w B p a) (hv : InvA a) (hn : name.size ≤ 100000000) :
    Calls Tryz.prog 59 #[.pointer (some ⟨h, 0, none⟩), .string name, .int .i64 width, .int .u64 room] w fun e w' => ∃ pa ev, e = .returned (.tuple #[.pointer pa, ev]) ∧ ArAt w' B p (toA a name width room).1 ∧ AFr ATy B w w' ∧ ErrV w' ev (toA a name width room).2.2 ∧ ((toA a name width room).2.2 = 0 → ∃ g, w.heap.size ≤ g ∧ pa = some ⟨g, 0, none⟩ ∧ WrAt w' p g (toA a name width room).2.1) := by
  have hto := to_any B p name width room a w ha hv
  obtain ⟨T, hT⟩ : ∃ T, T = toA a name width room := ⟨_, rfl⟩
  rw [← hT] at hto ⊢
  obtain ⟨a2, x, e1⟩ := T
  dsimp only at hto ⊢
  obtain ⟨E0, W0, hwk, hw2⟩ := hw
  obtain ⟨c0, _⟩ := ten_cells hwk
  have hhl := hwk.lt
  have HTo := hide hto
  have hfl := fun (d : ByteArray) (z : Int) W => fail_any d z W
  have hz6 : (⟨#[119, 114, 105, 116, 101, 32]⟩ : ByteArray).size = 6 := rfl
  have hn5 : ¬ 9223372036854775807 < (⟨#[119, 114, 105, 116, 101, 32]⟩ : ByteArray).size + name.size := by rw [hz6]; omega
  have HFl := hide hfl
  clear hwk hw2 hT hto hv ha hfl
  by_cases h0 : e1 = 0
  · subst h0
    go_enter Tryz.func59, Tryz.ntmps59
    go_wp2_with (first
      | (go_at_call 99; refine Calls.mono HTo.out ?_; rintro e w1 ⟨h1, h2, _, h3⟩; obtain ⟨g, hg, rfl, hwr⟩ := h3 (by first | rfl | trivial); have HA1 := hide h1; have HF1 := hide h2; have HX1 := hide hwr; clear h1 h2 hwr)
      | (go_at_call 56; refine Calls.mono (HFl.out _ _ _) ?_; rintro e w3 ⟨ev, rfl, he3, hb3⟩; have HE3 := hide he3; have HB3 := hide hb3; clear he3 hb3))
    refine bodyPost_ret (v := .tuple #[.pointer (some ⟨g, 0, none⟩), ev]) (by simp [results, Tryz.results59, go_sem]) rfl ?_
    exact ⟨_, _, rfl, HA1.out.keep HB3.out, HF1.out.trans (AFr.below HB3.out), ⟨_, HE3.out⟩, fun _ => ⟨g, hg, rfl, HX1.out.keep HB3.out⟩⟩
  · go_enter Tryz.func59, Tryz.ntmps59
    go_wp2_with (first
      | (go_at_call 99; refine Calls.mono HTo.out ?_; rintro e w1 ⟨h1, h2, h3, _⟩; obtain rfl := h3 h0; have HA1 := hide h1; have HF1 := hide h2; clear h1 h2)
      | (go_at_call 56; refine Calls.mono (HFl.out _ _ _) ?_; rintro e w3 ⟨ev, rfl, he3, hb3⟩; have HE3 := hide he3; have HB3 := hide hb3; clear he3 hb3))
    refine bodyPost_ret (v := .tuple #[.pointer none, ev]) (by simp [results, Tryz.results59, go_sem]) rfl ?_
    exact ⟨_, _, rfl, HA1.out.keep HB3.out, HF1.out.trans (AFr.below HB3.out), ⟨_, HE3.out⟩, fun h => absurd h h0⟩
end Go.Proofs.YtmopegpkoedgbaaGreatDoor
/- Walks: num.Record (slices.IndexFunc and ContainsFunc at numbers under num.beyond). -/
namespace Go.Proofs.YtmopegpkoedgbaaGreatDoor
open Go.RowKit Go.Sort

def beyB (n : Nat) : Bool := decide (1099511627776 ≤ n)
theorem beyond_any (n : Nat) (w : World) : Calls Tryz.prog 107 #[.int .u64 n] w fun e w' => e = .returned (.bool (beyB n)) ∧ w' = w := by
  have hd : decide ((1099511627776 : Int) ≤ (n : Int)) = beyB n := by
    unfold beyB
    by_cases h : 1099511627776 ≤ n
    · rw [decide_eq_true h, decide_eq_true (by omega)]
    · rw [decide_eq_false h, decide_eq_false (by omega)]
  have HD := hide hd
  clear hd
  go_enter Tryz.func107, Tryz.ntmps107
  go_wp2_with fail
  go_ret
  exact ⟨by rw [← HD.out]; rfl, rfl⟩
set_option maxHeartbeats 2000000 in
theorem index_beyond (A : Option Addr) (c n : Nat) (xs : List Nat) (w : World) (hr : Rd w n A (vu64 xs)) (hl : xs.length ≤ 1000000000) :
    Calls Tryz.prog 147 #[.slice A xs.length c, .func (.func 107) #[] #[]] w fun e w' => e = .returned (.int .i64 (idxI beyB xs)) ∧ w' = w := by
  have hn := fun (s : Nat) (W : World) => beyond_any s W
  have HN := hide hn
  have HR := hide hr
  clear hn hr
  go_enter Tryz.func147, Tryz.ntmps147
  go_wp2_with fail
  go_loopw [8] (fun i wr => ∃ k : Nat, i = .int .i64 k ∧ k ≤ xs.length ∧ wr = w ∧ Hid (∀ j y, j < k → xs[j]? = some y → beyB y = false)) (fun i _ => xs.length - (intOf i).toNat)
  case atStart => exact ⟨0, rfl, by omega, rfl, hide (fun j y hj => by omega)⟩
  case round =>
    obtain ⟨k, rfl, hk, rfl, hinv⟩ := hrel
    by_cases hlt : k < xs.length
    · obtain ⟨b, o, x, rfl, _, hx, hc⟩ := HR.out.u64 hlt
      have hbl : b < wr.heap.size := World.block_lt_of_cell? wr _ hc
      obtain ⟨t, ht⟩ : ∃ t, t = beyB x := ⟨_, rfl⟩
      have ht1 := fun (W : World) => HN.out x W
      rw [← ht] at ht1
      have HT := hide ht1
      have HTe := hide ht
      have HX := hide hx
      clear ht1 ht hx
      cases t with
      | true =>
        go_wp2_with (go_at_call 107; refine (HT.out _).mono ?_; rintro e w1 ⟨rfl, rfl⟩)
        go_ret
        exact ⟨by rw [idxI_at hinv.out HX.out HTe.out.symm]; rfl, by first | rfl | trivial⟩
      | false =>
        go_wp2_with (go_at_call 107; refine (HT.out _).mono ?_; rintro e w1 ⟨rfl, rfl⟩)
        exact ⟨⟨k + 1, by simp, by omega, trivial, hide (findIdx_step hinv.out HX.out HTe.out.symm)⟩, by simp [intOf]; omega⟩
    · obtain rfl : k = xs.length := by omega
      go_wp2_with fail
      go_ret
      exact ⟨by rw [idxI_none hinv.out]; rfl, by first | rfl | trivial⟩
theorem contains_beyond (A : Option Addr) (c n : Nat) (xs : List Nat) (w : World) (hr : Rd w n A (vu64 xs)) (hl : xs.length ≤ 1000000000) :
    Calls Tryz.prog 106 #[.slice A xs.length c, .func (.func 107) #[] #[]] w fun e w' => e = .returned (.bool (xs.any beyB)) ∧ w' = w := by
  have hi := index_beyond A c n xs w hr hl
  have hb : (decide ((0 : Int) ≤ idxI beyB xs)) = xs.any beyB := by
    unfold idxI
    cases h : xs.findIdx? beyB with
    | none =>
      rw [List.findIdx?_eq_none_iff] at h
      have : xs.any beyB = false := by
        rw [List.any_eq_false]
        intro x hx
        rw [h x hx]
        simp
      rw [this]; rfl
    | some i =>
      obtain ⟨hk, h1, _⟩ := List.findIdx?_eq_some_iff_getElem.1 h
      have : xs.any beyB = true := List.any_eq_true.2 ⟨xs[i], List.getElem_mem hk, h1⟩
      rw [this]
      show decide ((0 : Int) ≤ (i : Int)) = true
      exact decide_eq_true (by omega)
  obtain ⟨z, hz⟩ : ∃ z, z = idxI beyB xs := ⟨_, rfl⟩
  rw [← hz] at hi hb
  have HI := hide hi
  have HB := hide hb
  clear hi hb hz hr
  go_enter Tryz.func106, Tryz.ntmps106
  go_wp2_with (go_at_call 147; refine (HI.out).mono ?_; rintro e w1 ⟨rfl, ew⟩; obtain rfl : w = w1 := ew.symm)
  go_ret
  exact ⟨by rw [← HB.out]; rfl, by first | rfl | trivial⟩
/-- What Record answers. -/
def recV (l : List Nat) : ByteArray × Int := match recordB l with | none => (⟨#[]⟩, 1) | some b => (strOf b, 0)
theorem recV_bad {l : List Nat} (h : l.length < 1 ∨ 8 < l.length ∨ l.any beyB = true) : recV l = (⟨#[]⟩, 1) := by
  unfold recV recordB
  rw [if_pos (by
    rcases h with h | h | h
    · exact .inl h
    · exact .inr (.inl h)
    · exact .inr (.inr h))]
theorem recV_ok {l : List Nat} (h1 : 1 ≤ l.length) (h8 : l.length ≤ 8) (hb : l.any beyB = false) : recV l = (strOf (l.flatMap five), 0) := by
  unfold recV recordB
  rw [if_neg (by
    rintro (h | h | h)
    · omega
    · omega
    · rw [show (l.any fun n => decide (1099511627776 ≤ n)) = l.any beyB from rfl, hb] at h; cases h)]
theorem conv_row {W : World} {A : Option Addr} {n : Nat} {l : List Nat} (h : Rd W n A (vby l)) (c : Nat) : (convert 99 9 (.slice A l.length c)).run Tryz.prog W = .ok (.string (strOf l)) W :=
  run_conv Tryz.prog W 99 5 Tryz.underlying99 Tryz.underlying5 9 Tryz.underlying9 (l := l) (B := n) h c
set_option maxRecDepth 100000 in
set_option maxHeartbeats 4000000 in
theorem record_any (A : Option Addr) (c n : Nat) (l : List Nat) (w : World) (hr : Rd w n A (vu64 l)) (hn : n ≤ w.heap.size) (hl : l.length ≤ 1000000000) :
    Calls Tryz.prog 68 #[.slice A l.length c] w fun e w' => e = .returned (.tuple #[.string (recV l).1, .int .i64 (recV l).2]) ∧ Below w.heap.size w w' := by
  have hcb := contains_beyond A c n l w hr hl
  have HR := hide hr
  by_cases h1 : l.length < 1
  · rw [recV_bad (.inl h1)]
    have h1I : (l.length : Int) < 1 := by omega
    clear hr hcb
    go_enter Tryz.func68, Tryz.ntmps68
    go_wp2_with fail
    go_ret2
    exact ⟨rfl, Below.refl _ _⟩
  · have h1I : ¬ (l.length : Int) < 1 := by omega
    by_cases h8 : 8 < l.length
    · rw [recV_bad (.inr (.inl h8))]
      have h8I : (8 : Int) < (l.length : Int) := by omega
      clear hr hcb
      go_enter Tryz.func68, Tryz.ntmps68
      go_wp2_with fail
      go_ret2
      exact ⟨rfl, Below.refl _ _⟩
    · have h8I : ¬ (8 : Int) < (l.length : Int) := by omega
      cases hb : l.any beyB with
      | true =>
        rw [recV_bad (.inr (.inr hb))]
        rw [hb] at hcb
        have HCb := hide hcb
        clear hr hcb hb
        go_enter Tryz.func68, Tryz.ntmps68
        go_wp2_with (go_at_call 106; refine (HCb.out).mono ?_; rintro e w1 ⟨rfl, ew⟩; obtain rfl : w = w1 := ew.symm)
        go_ret2
        exact ⟨rfl, Below.refl _ _⟩
      | false =>
        rw [recV_ok (by omega) (by omega) hb]
        rw [hb] at hcb
        have HCb := hide hcb
        clear hr hcb hb
        obtain ⟨i0, hi, hz0, hz1, hz2⟩ := info_parts info_byte
        obtain ⟨m5, hm5⟩ : ∃ m5, m5 = 5 * l.length := ⟨_, rfl⟩
        obtain ⟨w1, hmk, hown, hgr⟩ := run_make_own (P := Tryz.prog) w w.heap.size 99 5 i0 (.int .u8 0) 1 Tryz.underlying99 hi hz0 hz1 .i64 .i64 m5 (by rw [hz2]; omega) (by unfold maxLen; omega) (Nat.le_refl _)
        obtain ⟨v0, hv0⟩ : ∃ v : Value, v = .slice (some ⟨w.heap.size, 0, none⟩) 0 m5 := ⟨_, rfl⟩
        rw [← hv0] at hmk hown
        clear hv0
        have hbe1 : RowKit.Below w.heap.size w w1 := (Below.refl _ _).grown hgr (Nat.le_refl _) (fun g hg => by cases hg)
        have hw5 : 5 * (l.length : Int) = (m5 : Int) := by omega
        have hm5' : m5 ≤ 5000 := by omega
        clear hm5
        have HB1 := hide hbe1
        have HOwn := hide hown
        clear hown hbe1 hgr
        go_enter Tryz.func68, Tryz.ntmps68
        go_wp2_with (go_at_call 106; refine (HCb.out).mono ?_; rintro e w9 ⟨rfl, ew⟩; obtain rfl : w = w9 := ew.symm)
        go_loopw [4, 26] (fun s5 s15 wr => ∃ k : Nat, s15 = .int .i64 k ∧ k ≤ l.length ∧ Hid (wr.ownsRow w.heap.size 5 1 s5 (5 * k) (vby ((l.take k).flatMap five))) ∧ Hid (RowKit.Below w.heap.size w wr)) (fun _ s15 _ => l.length - (intOf s15).toNat)
        case atStart => exact ⟨0, rfl, Nat.zero_le _, HOwn, HB1⟩
        case round =>
          clear HOwn HB1
          obtain ⟨k, rfl, hk, HRw, HB⟩ := hrel
          by_cases hlt : k < l.length
          · obtain ⟨b, o, x, rfl, hbn, hx, hcl⟩ := (HR.out.below (HB.out.mono hn)).u64 hlt
            have hbl : b < wr.heap.size := World.block_lt_of_cell? wr _ hcl
            have hst : (l.take (k + 1)).flatMap five = (l.take k).flatMap five ++ five x := by
              rw [List.take_add_one, hx, List.flatMap_append]; simp
            obtain ⟨a0, a1, a2, a3, a4, h5⟩ : ∃ a0 a1 a2 a3 a4, five x = [a0, a1, a2, a3, a4] := ⟨_, _, _, _, _, rfl⟩
            rw [h5] at hst
            have hfv : ∀ W, Calls Tryz.prog 108 #[.int .u64 x] W fun e w' => e = .returned (.agg #[.int .u8 a0, .int .u8 a1, .int .u8 a2, .int .u8 a3, .int .u8 a4]) ∧ Below W.heap.size W w' := fun W => by
              have := five_any x W
              unfold fiveV at this
              rw [h5] at this
              exact this
            have HFv := hide hfv
            have HSt := hide hst
            have hkI : (k : Int) < (l.length : Int) := by omega
            clear hfv hst h5 hx
            go_wp2_with (first
              | (go_at_call 108; refine Calls.mono (HFv.out _) ?_; rintro e w2 ⟨rfl, hb2⟩; have HB2 := hide hb2; have HR2 := hide (own_keep HRw.out (btrans hb2 (ba1 w2 (.cells #[.int .u8 a0, .int .u8 a1, .int .u8 a2, .int .u8 a3, .int .u8 a4] 169)))); have hbx : w.heap.size ≤ (w2.alloc (.cells #[.int .u8 a0, .int .u8 a1, .int .u8 a2, .int .u8 a3, .int .u8 a4] 169)).heap.size := Nat.le_trans HB.out.size (Nat.le_trans hb2.size (by simp)); clear hb2)
              | (at_builtin; refine wpList_append_own _ rfl (.tmp 32) (.tmp 33) 99 rfl w.heap.size 5 i0 (.int .u8 0) 1 1 Tryz.underlying99 hi hz0 hz1 hz2 rfl (by decide) _ _ _ rfl HR2.out ⟨w2.heap.size, 0, none⟩ 5 5 [.int .u8 a0, .int .u8 a1, .int .u8 a2, .int .u8 a3, .int .u8 a4] rfl rfl (cells_new w2 _ _) (by intro u hu; simp at hu; rcases hu with rfl | rfl | rfl | rfl | rfl <;> rfl) (by unfold maxLen; omega) (by omega) hbx ?_; intro v3 w3 hown3 hgr3 _; have HR3 := hide hown3; have HG3 := hide hgr3; clear hown3 hgr3))
            refine ⟨⟨k + 1, by go_num, by omega, hide ?_, hide ((btrans HB.out (btrans HB2.out (ba1 _ _))).grown HG3.out hbx (fun g hg => (HR2.out.lt g hg).1))⟩, by simp [intOf]; omega⟩
            rw [HSt.out, vby_app]
            exact HR3.out
          · have hkl : k = l.length := by omega
            have hR := HRw.out
            rw [hkl, List.take_length] at hR
            have hkI : ¬ (k : Int) < (l.length : Int) := by omega
            obtain ⟨A5, c5, rfl⟩ := own_formk hR
            obtain ⟨L5, hL5⟩ : ∃ L5, L5 = l.flatMap five := ⟨_, rfl⟩
            have hL : L5.length = 5 * l.length := by rw [hL5, flat_five]
            rw [← hL5, ← hL] at hR
            have hcv := conv_row (own_rd hR) c5
            rw [hL] at hcv
            have HL5 := hide hL5
            clear hL hL5 hR HRw hkl
            go_wp2_with fail
            go_ret2
            exact ⟨by rw [← HL5.out]; rfl, HB.out⟩
end Go.Proofs.YtmopegpkoedgbaaGreatDoor
/- Walk: num.Split. -/
namespace Go.Proofs.YtmopegpkoedgbaaGreatDoor
open Go.RowKit Go.Sort

/-- Rows of numbers, all of their own. -/
def OwnRows (w : World) (base : Nat) (v : Value) (ls : List (List Nat)) : Prop := ∃ vs, w.ownsRow base 63 1 v ls.length vs ∧ KeysR w vs ls
theorem OwnRows.keep {w w' : World} {base : Nat} {v : Value} {ls : List (List Nat)} (h : OwnRows w base v ls) (hb : Below w.heap.size w w') : OwnRows w' base v ls := by
  obtain ⟨vs, h1, h2⟩ := h
  exact ⟨vs, own_keep h1 hb, h2.fr fun _ _ _ ho => own_keep ho hb⟩
/-- What Split answers. -/
def splitV (s : ByteArray) (width : Int) : List (List Nat) × Int := if width < 1 ∨ 8 < width then ([], 1) else if s.size % (5 * width.toNat) ≠ 0 then ([], 5) else (splitB width.toNat (s.size + 1) (strL s), 0)
theorem info_sl64 : (Tryz.prog.info? 63).map (fun i => (i.zero, i.size, i.bytes)) = some (some (.slice none 0 0), 1, 24) := by kernel_rfl
theorem KeysR.snoc {w : World} {vs : List Value} {ls : List (List Nat)} (h : KeysR w vs ls) {A : Option Addr} {c : Nat} {l : List Nat} (hl : l.length ≤ 1000000) (ho : w.ownsRow 0 27 1 (.slice A l.length c) l.length (vu64 l)) : KeysR w (vs ++ [.slice A l.length c]) (ls ++ [l]) := ⟨by simp [h.len], fun i m hm => by
  rcases Nat.lt_trichotomy i ls.length with hi | hi | hi
  · rw [List.getElem?_append_left hi] at hm
    rw [List.getElem?_append_left (by rw [h.len]; exact hi)]
    exact h.row i m hm
  · subst hi
    rw [List.getElem?_append_right (Nat.le_refl _), Nat.sub_self] at hm
    cases hm
    refine ⟨hl, A, c, ?_, ho⟩
    rw [← h.len, List.getElem?_append_right (Nat.le_refl _), Nat.sub_self]; rfl
  · rw [List.getElem?_eq_none (by simp; omega)] at hm
    cases hm⟩
theorem splitB_step {w f : Nat} {s : ByteArray} (h : 0 < s.size) : splitB w (f + 1) (strL s) = ((List.range w).map fun k => ofB (((strL s).drop (5 * k)).take 5)) :: splitB w f (strL (s.extract (5 * w) s.size)) := by
  have hne : strL s ≠ [] := fun e => by have := strL_length s; rw [e] at this; simp at this; omega
  rw [splitB, if_neg hne, bytes_sub, List.take_of_length_le (by rw [strL_length]; exact Nat.le_refl _)]
theorem splitB_end {w f : Nat} {s : ByteArray} (h : s.size = 0) : splitB w f (strL s) = [] := by
  have he : strL s = [] := List.eq_nil_of_length_eq_zero (by rw [strL_length]; exact h)
  cases f with
  | zero => rfl
  | succ f => rw [splitB, if_pos he]
set_option maxRecDepth 100000 in
set_option maxHeartbeats 8000000 in
theorem split_any (s : ByteArray) (width : Nat) (w : World) (hs : s.size ≤ 100000000) (hw : width ≤ 1000) :
    Calls Tryz.prog 46 #[.string s, .int .i64 width] w fun e w' => ∃ v, e = .returned (.tuple #[v, .int .i64 (splitV s (width : Nat)).2]) ∧ OwnRows w' w.heap.size v (splitV s (width : Nat)).1 ∧ Below w.heap.size w w' := by
  by_cases h1 : width < 1
  · have hr : splitV s (width : Nat) = ([], 1) := by unfold splitV; rw [if_pos (by omega)]
    rw [hr]
    have h1I : (width : Int) < 1 := by omega
    clear hr
    go_enter Tryz.func46, Tryz.ntmps46
    go_wp2_with fail
    go_ret2
    exact ⟨_, rfl, ⟨[], ⟨rfl, .inl ⟨rfl, rfl⟩⟩, ⟨rfl, fun i l h => by cases h⟩⟩, Below.refl _ _⟩
  · have h1I : ¬ (width : Int) < 1 := by omega
    by_cases h8 : 8 < width
    · have hr : splitV s (width : Nat) = ([], 1) := by unfold splitV; rw [if_pos (by omega)]
      rw [hr]
      have h8I : (8 : Int) < (width : Int) := by omega
      clear hr
      go_enter Tryz.func46, Tryz.ntmps46
      go_wp2_with fail
      go_ret2
      exact ⟨_, rfl, ⟨[], ⟨rfl, .inl ⟨rfl, rfl⟩⟩, ⟨rfl, fun i l h => by cases h⟩⟩, Below.refl _ _⟩
    · have h8I : ¬ (8 : Int) < (width : Int) := by omega
      obtain ⟨q, hq⟩ : ∃ q, q = 5 * width := ⟨_, rfl⟩
      obtain ⟨R, hR⟩ : ∃ R, R = splitV s (width : Nat) := ⟨_, rfl⟩
      have hR2 := hR
      rw [← hR]
      unfold splitV at hR2
      rw [if_neg (by omega), Int.toNat_natCast, ← hq] at hR2
      have hqI2 : 5 * (width : Int) = (q : Int) := by omega
      have hq40 : q ≤ 40 := by omega
      have hq5 : 5 ≤ q := by omega
      by_cases hm : s.size % q = 0
      · rw [if_neg (by omega)] at hR2
        have hmI : (((s.size : Int) % (q : Int)) != 0) = false := by
          have hcast : ((s.size : Int) % (q : Int)) = ((s.size % q : Nat) : Int) := by rw [Int.natCast_emod]
          rw [hcast]
          simp
          omega
        have HR := hide hR2
        have HQ := hide hq
        have HMo := hide hm
        clear hR hR2 hq hm
        go_enter Tryz.func46, Tryz.ntmps46
        go_wp2_with fail
        obtain ⟨i0, hi0, hz0, hz1, hz2⟩ := info_parts info_sl64
        obtain ⟨M, hM⟩ : ∃ M, M = splitB width (s.size + 1) (strL s) := ⟨_, rfl⟩
        rw [← hM] at HR
        have hmk := fun W => run_u64s width (by omega) W
        have HM := hide (show M = [] ++ splitB width (s.size + 1) (strL s) from hM)
        clear hM
        go_loopw [0, 6] (fun sv ov wr => ∃ (t : ByteArray) (f : Nat) (done : List (List Nat)), sv = .string t ∧ t.size ≤ s.size ∧ t.size % q = 0 ∧ t.size < f ∧ done.length + t.size ≤ s.size ∧ Hid (M = done ++ splitB width f (strL t)) ∧ Hid (OwnRows wr w.heap.size ov done) ∧ Hid (Below w.heap.size w wr)) (fun sv _ _ => (match sv with | .string t => t.size | _ => 0))
        case atStart => exact ⟨s, s.size + 1, [], rfl, Nat.le_refl _, HMo.out, by omega, by simp, HM, hide ⟨[], ⟨rfl, .inl ⟨rfl, rfl⟩⟩, ⟨rfl, fun i l h => by cases h⟩⟩, hide (Below.refl _ _)⟩
        case round =>
          clear HM
          obtain ⟨t, f, done, rfl, hts, htq, htf, hdn, HM, HO, HB⟩ := hrel
          by_cases h0 : t.size = 0
          · have hM := HM.out
            rw [splitB_end h0, List.append_nil] at hM
            have hte : t = ⟨#[]⟩ := by
              cases t with | mk d =>
                have : d = #[] := Array.eq_empty_of_size_eq_zero h0
                rw [this]
            subst hte
            have HM2 := hide hM
            clear hM HM htq htf hdn hts h0
            go_wp2_with fail
            go_ret2
            rw [HR.out, HM2.out]
            exact ⟨_, rfl, HO.out, HB.out⟩
          · have hqt : q ≤ t.size := Nat.le_of_dvd (by omega) (Nat.dvd_of_mod_eq_zero htq)
            obtain ⟨g, rfl⟩ : ∃ g, f = g + 1 := ⟨f - 1, by omega⟩
            have hM := HM.out
            rw [splitB_step (by omega), ← HQ.out] at hM
            have hte : t.toList.isEmpty = false := by
              rw [isEmpty_str]
              exact decide_eq_false h0
            have HM2 := hide hM
            have HTq := hide htq
            clear hM HM htq
            obtain ⟨L, hL⟩ : ∃ L : Nat → Nat, L = fun k => ofB (((strL t).drop (5 * k)).take 5) := ⟨_, rfl⟩
            have HL := hide hL
            rw [← hL] at HM2
            clear hL
            obtain ⟨gl, hgl⟩ : ∃ gl, gl = wr.heap.size := ⟨_, rfl⟩
            have hzg : w.heap.size ≤ gl := by rw [hgl]; exact HB.out.size
            have hs0 : (wr.alloc (.cells (vu64 (List.replicate width 0)).toArray 27)).ownsRow w.heap.size 27 1 (.slice (some ⟨gl, 0, none⟩) width width) width (vu64 (partN width L 0)) := by rw [partN_zero, hgl]; exact own_made wr _ _ HB.out.size (by omega)
            obtain ⟨wo, hwo⟩ : ∃ wo, wo = wr := ⟨_, rfl⟩
            have hs1 : Below wo.heap.size wo (wr.alloc (.cells (vu64 (List.replicate width 0)).toArray 27)) := by rw [hwo]; exact ba1 wr _
            have hgo : gl = wo.heap.size := by rw [hgl, hwo]
            rw [← hwo] at HO HB
            have HGo := hide hgo
            have HS0 := hide hs0
            have HS1 := hide hs1
            have HGl := hide hgl
            clear hgl hs0 hs1 hwo hgo
            go_upto_region 10 with (fail)
            simp only [← HGl.out]
            go_loopw [33] (fun s33 wq => ∃ k : Nat, s33 = .int .i64 k ∧ k ≤ width ∧ Hid (wq.ownsRow w.heap.size 27 1 (.slice (some ⟨gl, 0, none⟩) width width) width (vu64 (partN width L k))) ∧ Hid (Below wo.heap.size wo wq)) (fun s33 _ => width - (intOf s33).toNat)
            case atStart => exact ⟨0, rfl, Nat.zero_le _, HS0, HS1⟩
            case round =>
              clear HS0 HS1
              obtain ⟨k, rfl, hk, HRw, HBo⟩ := hrel
              by_cases hlt : k < width
              · have hfz := own_free (i := k) HRw.out
                have hcl : wr.cell? ⟨gl, k, none⟩ = some (.int .u64 (0 : Nat)) := by
                  have hx : (vu64 (partN width L k))[k]? = some (.int .u64 (0 : Nat)) := by
                    unfold vu64 partN
                    rw [List.getElem?_map, List.getElem?_map, List.getElem?_range hlt]
                    simp
                  have := HRw.out.cells (g := gl) rfl k _ hx
                  rw [Addr.add_lit, Nat.zero_add] at this
                  exact this
                have hlb : gl < wr.heap.size := own_lt HRw.out _ rfl
                obtain ⟨q5, hq5⟩ : ∃ q5, q5 = 5 * k := ⟨_, rfl⟩
                have hq5I : 5 * (k : Int) = (q5 : Int) := by omega
                have hq5b : q5 + 5 ≤ q := by rw [HQ.out]; omega
                have hq5t : q5 ≤ t.size := by omega
                have hnum := fun W => numOf_any (t.extract q5 t.size) W (by rw [ByteArray.size_extract]; omega)
                have hLk : ofB ((strL (t.extract q5 t.size)).take 5) = L k := by
                  rw [HL.out, bytes_sub, show (strL t).take t.size = strL t from List.take_of_length_le (by rw [strL_length]; exact Nat.le_refl _), hq5]
                rw [hLk] at hnum
                have HNum := hide hnum
                have hset := partN_set width L hlt
                obtain ⟨x, hx⟩ : ∃ x, x = L k := ⟨_, rfl⟩
                rw [← hx] at HNum hset
                have HSet := hide hset
                have hkI : (k : Int) < (width : Int) := by omega
                clear hnum hset hLk hx hq5
                go_wp2_with (go_at_call 89; refine Calls.mono (HNum.out _) ?_; rintro e w3 ⟨rfl, ew⟩; obtain rfl : wr = w3 := ew.symm)
                have h1 := own_putk (i := k) HRw.out (.int .u64 (x : Nat))
                rw [HSet.out] at h1
                exact ⟨⟨k + 1, by go_num, by omega, hide h1, hide (HBo.out.setCell (p := ⟨gl, k, none⟩) (by show wo.heap.size ≤ gl; rw [HGo.out]; exact Nat.le_refl _) _)⟩, by simp [intOf]; omega⟩
              · obtain rfl : k = width := by omega
                have hkI : ¬ (k : Int) < (k : Int) := by omega
                have hrow := HRw.out
                rw [partN_all] at hrow
                obtain ⟨row, hro⟩ : ∃ row, row = (List.range k).map L := ⟨_, rfl⟩
                have hrl : row.length = k := by rw [hro]; simp
                rw [← hro] at hrow HM2
                have HRow := hide hrow
                have HRl := hide hrl
                clear hrow hro hrl HRw
                obtain ⟨vs, ho, hks⟩ := HO.out.keep HBo.out
                have hbw : w.heap.size ≤ wr.heap.size := Nat.le_trans HB.out.size HBo.out.size
                have HOv := hide ho
                have HKs := hide hks
                have hdl : done.length ≤ 100000000 := by omega
                clear ho hks
                go_wp2_with (at_builtin; refine wpList_append_own _ rfl (.tmp 45) (.tmp 47) 35 rfl w.heap.size 63 i0 (.slice none 0 0) 1 24 Tryz.underlying35 hi0 hz0 hz1 hz2 rfl (by decide) _ _ _ rfl (HOv.out.alloc _) ⟨wr.heap.size, 0, none⟩ 1 1 [.slice (some ⟨gl, 0, none⟩) k k] rfl rfl (cell_one_new _ _ _) (by intro u hu; simp at hu; subst hu; rfl) (by unfold maxLen; omega) (by omega) (by simp; omega) ?_; intro v3 w3 hown3 hgr3 _; have HO3 := hide hown3; have HG3 := hide hgr3; clear hown3 hgr3)
                have hb1 : Below wr.heap.size wr (wr.alloc (.cells #[.slice (some ⟨gl, 0, none⟩) k k] 63)) := ba1 _ _
                have ho2 := HOv.out.alloc (.cells #[.slice (some ⟨gl, 0, none⟩) k k] 63)
                have hf3 : AFr (fun t => t = 63) (fl 0) (wr.alloc (.cells #[.slice (some ⟨gl, 0, none⟩) k k] 63)) w3 := (AFr.refl _ _ _).grown ho2 (fun k _ => Nat.zero_le _) rfl HG3.out
                have hb3 : Below w.heap.size (wr.alloc (.cells #[.slice (some ⟨gl, 0, none⟩) k k] 63)) w3 := (Below.refl _ _).grown HG3.out (by simp; omega) (fun k hk => (ho2.lt k hk).1)
                have hks3 := (HKs.out.fr fun _ _ _ ho => own_afr (own_keep ho hb1) hf3 (by decide)).snoc (l := row) (A := some ⟨gl, 0, none⟩) (c := k) (by rw [HRl.out]; omega) (by
                  rw [HRl.out]
                  exact own_base (own_afr (own_keep HRow.out hb1) hf3 (by decide)) fun _ _ => Nat.zero_le _)
                rw [HRl.out] at hks3
                obtain ⟨q6, hq6⟩ : ∃ q6, q6 = t.extract q t.size := ⟨_, rfl⟩
                have hq6s : q6.size = t.size - q := by rw [hq6, ByteArray.size_extract]; omega
                refine ⟨⟨t.extract q t.size, g, done ++ [row], rfl, ?_, ?_, ?_, ?_, hide ?_, hide ⟨vs ++ [.slice (some ⟨gl, 0, none⟩) k k], ?_, hks3⟩, hide ((HB.out.trans (HBo.out.mono HB.out.size)).trans ((hb1.mono hbw).trans hb3))⟩, ?_⟩
                · rw [← hq6, hq6s]; omega
                · rw [← hq6, hq6s, Nat.mod_eq_sub_mod hqt |>.symm]; exact HTq.out
                · rw [← hq6, hq6s]; omega
                · rw [← hq6, hq6s, List.length_append]; simp; omega
                · rw [HM2.out, List.append_assoc]; rfl
                · rw [List.length_append]; exact HO3.out
                · rw [← hq6]; show q6.size < t.size; omega
      · rw [if_pos (by omega)] at hR2
        have hmI : (((s.size : Int) % (q : Int)) != 0) = true := by
          have hcast : ((s.size : Int) % (q : Int)) = ((s.size % q : Nat) : Int) := by rw [Int.natCast_emod]
          rw [hcast]
          simp
          omega
        have HR := hide hR2
        have HQ := hide hq
        clear hR hR2 hq
        go_enter Tryz.func46, Tryz.ntmps46
        go_wp2_with fail
        go_ret2
        rw [HR.out]
        exact ⟨_, rfl, ⟨[], ⟨rfl, .inl ⟨rfl, rfl⟩⟩, ⟨rfl, fun i l h => by cases h⟩⟩, Below.refl _ _⟩
end Go.Proofs.YtmopegpkoedgbaaGreatDoor
