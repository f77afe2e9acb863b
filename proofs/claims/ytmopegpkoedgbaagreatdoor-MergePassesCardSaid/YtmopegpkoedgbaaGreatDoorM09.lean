/- Lemmas for the row: DskRd, DskWr. -/
import Derived.Test.YtmopegpkoedgbaaGreatDoorM07
import Derived.Test.YtmopegpkoedgbaaGreatDoorM08
import Derived.StillTailTactics
set_option linter.unusedVariables false
set_option linter.unusedSimpArgs false
/- Walk: (*disk.Dev).Read. -/
namespace Go.Proofs.YtmopegpkoedgbaaGreatDoor
open Go.RowKit Go.Shelf Go.Sort

def hitW (name : ByteArray) (sec : Int) (w : Wt) : Bool := decide (w.sec = sec) && decide (w.nm = name)
theorem rev_get {α : Type} {l : List α} {k : Nat} (h : k < l.length) : l.reverse[k]? = l[l.length - 1 - k]? := by
  rw [List.getElem?_reverse h]
theorem lastW_hit {l : List Wt} {name : ByteArray} {sec : Int} {k : Nat} {x : Wt} (h : ∀ j y, j < k → l[l.length - 1 - j]? = some y → hitW name sec y = false) (hk : k < l.length) (hx : l[l.length - 1 - k]? = some x) (hp : hitW name sec x = true) : lastW l name sec = some x.dt := by
  unfold lastW
  have : l.reverse.find? (hitW name sec) = some x := by
    rw [List.find?_eq_some_iff_getElem]
    refine ⟨hp, k, by simpa using hk, ?_, fun j hj => ?_⟩
    · have := rev_get hk
      rw [hx] at this
      exact (List.getElem?_eq_some_iff.1 this).2
    · have h1 := rev_get (l := l) (k := j) (by omega)
      have h2 : l.reverse[j]? = some (l.reverse[j]'(by simp; omega)) := List.getElem?_eq_getElem (by simp; omega)
      rw [h2] at h1
      rw [h j _ hj h1.symm]; rfl
  show (l.reverse.find? (hitW name sec)).map (·.dt) = some x.dt
  rw [this]; rfl
theorem lastW_miss {l : List Wt} {name : ByteArray} {sec : Int} (h : ∀ j y, j < l.length → l[l.length - 1 - j]? = some y → hitW name sec y = false) : lastW l name sec = none := by
  have : l.reverse.find? (hitW name sec) = none := by
    rw [List.find?_eq_none]
    intro x hx
    obtain ⟨j, hj⟩ := List.mem_iff_getElem?.1 hx
    have hl := (List.getElem?_eq_some_iff.1 hj).1
    rw [List.length_reverse] at hl
    rw [rev_get hl] at hj
    rw [h j x hl hj]; simp
  show (l.reverse.find? (hitW name sec)).map (·.dt) = none
  rw [this]; rfl
theorem placeD_zero {d : Dsk} {name : ByteArray} {sec : Int} {p : Nat} (h : (p, (0 : Int)) = placeD d name sec) : ∃ x, d.exts[p]? = some x ∧ 0 ≤ sec ∧ sec < (secsE x : Nat) := by
  unfold placeD at h
  cases hx : d.exts[findI d.exts name]? with
  | none => rw [hx] at h; cases h
  | some x =>
    rw [hx] at h
    dsimp only at h
    by_cases e : x.nm = name
    · rw [if_pos e] at h
      by_cases g : sec < 0 ∨ (secsE x : Nat) ≤ sec
      · rw [if_pos g] at h; cases h
      · rw [if_neg g] at h
        cases h
        exact ⟨x, hx, by omega, by omega⟩
    · rw [if_neg e] at h; cases h
attribute [local go_sem] Oper.semAt_some
set_option maxRecDepth 100000 in
set_option maxHeartbeats 4000000 in
theorem read_disk (B : Fld) (q : Nat) (d : Dsk) (name : ByteArray) (sec : Int) (w : World) (hd : DvAt w B q d) (hr : Right d) :
    Calls Tryz.prog 86 #[.pointer (some ⟨q, 0, none⟩), .string name, .int .i64 sec] w fun e w' => e = .returned (.tuple #[.string (readD d name sec).1, .int .i64 (readD d name sec).2]) ∧ Below w.heap.size w w' := by
  have hpl := fun (W : World) (h : Below w.heap.size w W) => place_disk B q d name sec W (hd.keep h) hr
  obtain ⟨w0, hw0⟩ : ∃ w0, w0 = (((w.alloc (.cells #[.string name] 9)).alloc (.cells #[.int .i64 sec] 3)).alloc (.cells #[.string ⟨#[]⟩] 9)).alloc (.cells #[.int .i64 0] 30) := ⟨_, rfl⟩
  have hb0 : Below w.heap.size w w0 := by rw [hw0]; exact btrans (ba2 _ _ _) (ba2 _ _ _)
  have hs0 : w0.heap.size = w.heap.size + 4 := by rw [hw0]; simp
  have k0 : Bk w0 w.heap.size 9 #[.string name] := by rw [hw0]; exact (((Bk.new w _ _).alloc _).alloc _).alloc _
  have k1 : Bk w0 (w.heap.size + 1) 3 #[.int .i64 sec] := by rw [hw0]; exact ((Bk.new1 w _ _ _).alloc _).alloc _
  have k2 : Bk w0 (w.heap.size + 1 + 1) 9 #[.string ⟨#[]⟩] := by rw [hw0]; exact (Bk.new2 w _ _ _ _).alloc _
  have k3 : Bk w0 (w.heap.size + 1 + 1 + 1) 30 #[.int .i64 0] := by
    rw [hw0]
    have := Bk.new (((w.alloc (.cells #[.string name] 9)).alloc (.cells #[.int .i64 sec] 3)).alloc (.cells #[.string ⟨#[]⟩] 9)) 30 #[.int .i64 0]
    simpa using this
  have hk := hd
  obtain ⟨E, W, hk, hE, hW, hq⟩ := hk
  obtain ⟨AE, cE, rfl⟩ := own_formk hE
  obtain ⟨AW, cW, rfl⟩ := own_formk hW
  have hRE := own_rdk hE
  have hRW := own_rdk hW
  have hk0 := hk.keep hb0
  obtain ⟨P, hP⟩ : ∃ P, P = placeD d name sec := ⟨_, rfl⟩
  have hrd : readD d name sec = if P.2 ≠ 0 then (⟨#[]⟩, P.2) else match lastW d.waits name sec with
    | some s => (s, 0)
    | none => ((((d.exts[P.1]?).map Ext.dt).getD ⟨#[]⟩).extract (64 * sec.toNat) (64 * (sec.toNat + 1)), 0) := by unfold readD; rw [hP]; rfl
  rw [← hP] at hpl
  rw [hrd]
  obtain ⟨p1, p2⟩ := P
  dsimp only at hpl ⊢
  have HPl := hide (hpl w0 hb0)
  have HK := hide hk0
  have HB0 := hide hb0
  have K0 := hide k0
  have K1 := hide k1
  have K2 := hide k2
  have K3 := hide k3
  clear hpl hE hW hk hk0 hd hrd
  by_cases hp2 : p2 = 0
  · subst hp2
    rw [if_neg (by simp)]
    obtain ⟨R, hR⟩ : ∃ R : ByteArray × Int, R = (match lastW d.waits name sec with
      | some s => (s, 0)
      | none => ((((d.exts[p1]?).map Ext.dt).getD ⟨#[]⟩).extract (64 * sec.toNat) (64 * (sec.toNat + 1)), 0)) := ⟨_, rfl⟩
    rw [← hR]
    obtain ⟨r1, r2⟩ := R
    have HRs := hide hR
    clear hR
    dsimp only
    refine (callsIn_wide (n := 4)).1 ?_
    refine callsIn_of_wp_marks Tryz.func86 rfl trivial ?_ rfl
    simp only [Tryz.ntmps86, List.size_toArray, List.length_cons, List.length_nil, Nat.reduceAdd, Nat.reduceSub, Array.replicate_succ, Array.replicate_zero, List.push_toArray, List.append_toArray, List.nil_append, List.cons_append]
    gi_wp2_with (first
      | (refine ⟨trivial, ?_⟩; gi_at_call 128; rw [← hw0]; refine ((callsIn_wide (n := 3)).2 HPl.out).mono ?_; rintro e w1 ⟨rfl, hb1⟩; obtain ⟨d0, d1, d2, d3, d4⟩ := five_cells (HK.out.keep hb1); have HB1 := hide hb1; clear hb1)
      | (refine ⟨trivial, ?_⟩; gi_at_call 129; refine ((callsIn_wide (n := 3)).2 (backW_any _ _ _ _)).mono ?_; rintro e w2 ⟨rfl, rfl⟩))
    have hk1 := HK.out.keep HB1.out
    have hbw1 := btrans HB0.out HB1.out
    have hkc : Bk w1 w.heap.size 9 #[.string name] := K0.out.keep HB1.out
    have hks : Bk w1 (w.heap.size + 1) 3 #[.int .i64 sec] := K1.out.keep HB1.out
    have hkr : Bk w1 (w.heap.size + 1 + 1) 9 #[.string ⟨#[]⟩] := K2.out.keep HB1.out
    have hke : Bk w1 (w.heap.size + 1 + 1 + 1) 30 #[.int .i64 0] := K3.out.keep HB1.out
    have hz1 : w.heap.size + 4 ≤ w1.heap.size := by have := HB1.out.size; omega
    obtain ⟨WL, hWL⟩ : ∃ W : World, W = w1.alloc (.cells #[.slice AW d.waits.length cW] 23) := ⟨_, rfl⟩
    have hzl : WL.heap.size = w1.heap.size + 1 := by rw [hWL]; simp
    have hbl : Below w1.heap.size w1 WL := by rw [hWL]; exact ba1 _ _
    have hbx : Bk WL w1.heap.size 23 #[.slice AW d.waits.length cW] := by rw [hWL]; exact Bk.new _ _ _
    rw [← hWL]
    have HZ := hide hzl
    have HBl := hide (btrans hbw1 hbl)
    have HBx := hide hbx
    have C0 := hide (hkc.keep hbl)
    have C1 := hide (hks.keep hbl)
    have C2 := hide (hkr.keep hbl)
    have C3 := hide (hke.keep hbl)
    have CQ := hide (hk1.keep hbl)
    have Z1 := hide hz1
    have HS0 := hide hs0
    have RW := hide hRW
    have RE := hide hRE
    have hnw := hr.nwaits
    have HP := hide hP
    clear hk1 hkc hks hkr hke hbl hbx hWL hzl hbw1 d0 d1 d2 d3 d4 hRW hRE hz1 hs0 hP hb0 k0 k1 k2 k3 hw0
    refine wpIn_rangeFunc_sa (w := WL) (α := Nat × Wt) rfl (by decide) (gf := 166) (lb := #[.pointer (some ⟨w1.heap.size, 0, none⟩)]) rfl trivial (enters_of Tryz.func166 (by kernel_rfl) rfl)
      (encs := fun x => #[.int .i64 ((d.waits.length - 1 - x.1 : Nat) : Int), .agg #[.string x.2.nm, .int .i64 x.2.sec, .string x.2.dt]]) (fun _ => rfl)
      (fun x W => Below WL.heap.size WL W ∧ (∀ j y, j < x.1 → d.waits[d.waits.length - 1 - j]? = some y → hitW name sec y = false) ∧ x.1 < d.waits.length ∧ d.waits[d.waits.length - 1 - x.1]? = some x.2)
      (fun x W => Below WL.heap.size WL W ∧ (∀ j y, j < x.1 + 1 → d.waits[d.waits.length - 1 - j]? = some y → hitW name sec y = false))
      (fun c W => c = .ret ∧ ∃ s, lastW d.waits name sec = some s ∧ Bk W (w.heap.size + 1 + 1) 9 #[.string s] ∧ Bk W (w.heap.size + 1 + 1 + 1) 30 #[.int .i64 0] ∧ Below w.heap.size w W)
      (fun W => Below WL.heap.size WL W ∧ lastW d.waits name sec = none)
      (fun x W l o o' hI hl ho hc => ⟨below_stay hI.1 o' hl, hI.2⟩)
      (fun x W l o o' hI hl ho hc => ⟨below_stay hI.1 o' hl, hI.2⟩)
      (fun c W l o o' hI hl ho hc => by obtain ⟨h0, s, h1, h2, h3, h4⟩ := hI; exact ⟨h0, s, h1, h2.stay o' ho hc, h3.stay o' ho hc, below_stay h4 o' (by have := HBl.out.size; omega)⟩)
      (fun W l o o' hI hl ho hc => ⟨below_stay hI.1 o' hl, hI.2⟩)
      (fun x b => { tmps := #[.pointer (some ⟨q, 0, none⟩), .string name, .int .i64 sec, undef, .pointer (some ⟨w.heap.size, 0, none⟩), .pointer (some ⟨w.heap.size + 1, 0, none⟩), .pointer (some ⟨w.heap.size + 1 + 1, 0, none⟩), .pointer (some ⟨w.heap.size + 1 + 1 + 1, 0, none⟩), .int .i64 p1, .int .i64 0, undef, .pointer (some ⟨b, 0, none⟩), .tuple #[.int .i64 p1, .int .i64 0], .pointer (some ⟨q, 0, none⟩), .string name, .int .i64 sec, .tuple #[.int .i64 p1, .int .i64 0], .int .i64 p1, .int .i64 0, .int .i64 0, .bool false, undef, .pointer (some ⟨q, 0, none⟩), .pointer (some ⟨q, 0, none⟩), .pointer (some ⟨q, 0, none⟩), .pointer (some ⟨q, 2, none⟩), .slice AW d.waits.length cW, .func (.func 166) #[] #[.pointer (some ⟨w1.heap.size, 0, none⟩)], .int .i64 ((d.waits.length - 1 - x.1 : Nat) : Int), .agg #[.string x.2.nm, .int .i64 x.2.sec, .string x.2.dt], undef, undef, undef, undef, undef, undef, undef, undef, undef, undef, undef, undef, undef, undef, undef, undef, undef, undef, undef, undef, undef, undef, undef, undef, undef, undef, undef], defers := [] })
      79 (fun x => #[.string x.2.nm, .int .i64 x.2.sec, .string x.2.dt]) (fun x W o h => ⟨btrans h.1 (ba1 _ _), h.2⟩)
      ?iter ?assign ?body ?done ?stop
    case iter =>
      rintro l W1 ol Out rfl rfl hY
      have hb2 : Below WL.heap.size WL ((WL.alloc (.deferred (some []))).alloc (.loop ol)) := ba2 _ _ _
      refine (backW_iter WL.heap.size w1.heap.size cW AW d.waits _ 3 (by decide) _ (by omega) (fun k W => Below WL.heap.size WL W ∧ ∀ j y, j < k → d.waits[d.waits.length - 1 - j]? = some y → hitW name sec y = false) Out (fun k W h => ⟨((HBx.out.keep h.1).cell 0).trans rfl, (RW.out.below (btrans HBl.out h.1)).more (btrans HBl.out h.1).size⟩) ⟨hb2, fun j y hj => by omega⟩ (fun k x W hk hx hP htw => hY (k, x) W ⟨hP.1, hP.2, hk, hx⟩ htw)).mono ?_
      rintro e W ⟨hv, ⟨hP, htw⟩ | hO⟩
      · exact ⟨hv, .inl ⟨⟨hP.1, lastW_miss hP.2⟩, htw⟩⟩
      · exact ⟨hv, .inr hO⟩
    case assign =>
      intro l x W K hK
      gi_wp2
      exact hK
    case body =>
      rintro l ⟨k, x⟩ b W ⟨hb, hno, hk, hx⟩ hbl hbk
      dsimp only at hno hk hx hbk ⊢
      obtain ⟨x0, x1, x2⟩ := cells3 hbk
      have hbW := hbk.lt
      have n0 := (C0.out.keep hb).cell 0
      have n1 := (C1.out.keep hb).cell 0
      have m2 := C2.out.keep hb
      have m3 := C3.out.keep hb
      have n2 := m2.cell 0
      have n3 := m3.cell 0
      have f2 := m2.free 0
      have f3 := m3.free 0
      have HNo := hide hno
      have HX := hide hx
      have HB := hide hb
      have M2 := hide m2
      have M3 := hide m3
      clear hno hx hb m2 m3 hbk
      obtain ⟨xn, xs, xd⟩ := x
      dsimp only at HX x0 x1 x2 ⊢
      by_cases e1 : xs = sec
      · subst e1
        by_cases e2 : xn = name
        · subst e2
          have e3 : (xn.toList == xn.toList) = true := by simp
          gi_wp2
          have hZ := HZ.out
          have z1 := Z1.out
          refine ⟨Two.fr (((Fr.refl (fun g => g = w.heap.size + 1 + 1 ∨ g = w.heap.size + 1 + 1 + 1) W).setCell (p := ⟨w.heap.size + 1 + 1, 0, none⟩) (.inl (.inl rfl)) _).setCell (p := ⟨w.heap.size + 1 + 1 + 1, 0, none⟩) (.inl (.inr rfl)) _) (by have := HB.out.size; omega) (by omega) (by omega), rfl, xd, lastW_hit HNo.out hk HX.out (by simp [hitW]), ?_, ?_, ?_⟩
          · exact (M2.out.set_ 0 _).far (p := ⟨w.heap.size + 1 + 1 + 1, 0, none⟩) (by show w.heap.size + 1 + 1 ≠ w.heap.size + 1 + 1 + 1; omega) _
          · exact (M3.out.far (p := ⟨w.heap.size + 1 + 1, 0, none⟩) (by show w.heap.size + 1 + 1 + 1 ≠ w.heap.size + 1 + 1; omega) _).set_ 0 _
          · exact ((btrans HBl.out HB.out).setCell (p := ⟨w.heap.size + 1 + 1, 0, none⟩) (by show w.heap.size ≤ w.heap.size + 1 + 1; omega) _).setCell (p := ⟨w.heap.size + 1 + 1 + 1, 0, none⟩) (by show w.heap.size ≤ w.heap.size + 1 + 1 + 1; omega) _
        · have e3 : ¬ xn.toList = name.toList := fun h => e2 (toList_inj' h)
          have e4 : (xn.toList == name.toList) = false := by simp [e3]
          have E2 := hide e2
          clear e2
          gi_wp2
          refine ⟨Two.refl _ _, HB.out, fun j y hj hy => ?_⟩
          rcases Nat.lt_or_ge j k with g | g
          · exact HNo.out j y g hy
          · obtain rfl : j = k := by omega
            rw [HX.out] at hy
            obtain rfl := Option.some.inj hy
            simp [hitW, E2.out]
      · have e5 : (xs == sec) = false := by simp [e1]
        gi_wp2
        refine ⟨Two.refl _ _, HB.out, fun j y hj hy => ?_⟩
        rcases Nat.lt_or_ge j k with g | g
        · exact HNo.out j y g hy
        · obtain rfl : j = k := by omega
          rw [HX.out] at hy
          obtain rfl := Option.some.inj hy
          simp [hitW, e1]
    case done =>
      rintro W ⟨hb, hlw⟩ hD
      have hpl := placeD_zero HP.out
      obtain ⟨x, hx, hs0, hs1⟩ := hpl
      have hrd := RE.out
      obtain ⟨bE, oE, rfl, hbE, g1, g2⟩ := ext_cells hrd hx
      have hbw := btrans HBl.out hb
      have q2 : W.cell? ⟨bE, oE + p1 * 2 + 1, none⟩ = some (.string x.dt) := (hbw.cell (p := ⟨bE, oE + p1 * 2 + 1, none⟩) hbE).trans g2
      obtain ⟨d0, d1, d2, d3, d4⟩ := five_cells (CQ.out.keep hb)
      have n1 := (C1.out.keep hb).cell 0
      have m2 := C2.out.keep hb
      have m3 := C3.out.keep hb
      have n2 := m2.cell 0
      have n3 := m3.cell 0
      have f2 := m2.free 0
      have f3 := m3.free 0
      have hfl : p1 < d.exts.length := (List.getElem?_eq_some_iff.1 hx).1
      have hxz := hr.ext_size (List.mem_of_getElem? hx)
      have hxd : (((d.exts[p1]?).map Ext.dt).getD ⟨#[]⟩) = x.dt := by rw [hx]; rfl
      have hrs := HRs.out
      rw [hxd, hlw] at hrs
      obtain ⟨t, rfl⟩ : ∃ t : Nat, sec = (t : Int) := ⟨sec.toNat, by omega⟩
      have hsx : 64 * (t + 1) ≤ x.dt.size := by unfold secsE at hs1; omega
      have hrs1 : r1 = x.dt.extract (64 * t) (64 * (t + 1)) := by
        have := congrArg Prod.fst hrs
        simpa using this
      have hrs2 : r2 = 0 := congrArg Prod.snd hrs
      subst hrs2
      obtain ⟨a, ha⟩ : ∃ a, a = 64 * t := ⟨_, rfl⟩
      obtain ⟨b, hb'⟩ : ∃ b, b = 64 * (t + 1) := ⟨_, rfl⟩
      have w1' : IntKind.i64.wrap (64 * (t : Int)) = (a : Int) := by rw [IntWalk.i64_in _ ⟨by omega, by omega⟩]; omega
      have w2' : IntKind.i64.wrap ((t : Int) + 1) = (t : Int) + 1 := IntWalk.i64_in _ ⟨by omega, by omega⟩
      have w3' : IntKind.i64.wrap (64 * ((t : Int) + 1)) = (b : Int) := by rw [IntWalk.i64_in _ ⟨by omega, by omega⟩]; omega
      rw [← ha, ← hb'] at hrs1
      rw [← hb'] at hsx
      have hab : a ≤ b := by omega
      have habI : (a : Int) ≤ (b : Int) := by omega
      have hbI : (b : Int) ≤ (x.dt.size : Int) := by omega
      clear ha hb'
      have HRs1 := hide hrs1
      have HD := hide hD
      have M2 := hide m2
      have M3 := hide m3
      have HBw := hide hbw
      clear hrs hrs1 hxd hlw hD m2 m3 hbw hrd hx g1 g2 hb
      gi_wp2
      refine wpIn_wide.2 ?_
      refine wp_region_still_tail 15 (by kernel_rfl) (by kernel_rfl) ?_
      simp only [List.take_succ_cons, List.take_zero, List.drop_succ_cons, List.drop_zero]
      change wpStill _ _ W.drew _ _ _
      repeat still_step
      refine wpStill_nil ?_
      change wpList _ _ _ _ _ W.drew
      go_wp2_with fail
      gi_wp2
      have hd2 : ((W.setCell ⟨w.heap.size + 1 + 1, 0, none⟩ (.string (x.dt.extract a b))).setCell ⟨w.heap.size + 1 + 1 + 1, 0, none⟩ (.int .i64 0)).drew.heap[WL.heap.size]? = some (.deferred (some [])) := by
        have hZ := HZ.out
        have z1 := Z1.out
        show ((W.setCell ⟨w.heap.size + 1 + 1, 0, none⟩ (.string (x.dt.extract a b))).setCell ⟨w.heap.size + 1 + 1 + 1, 0, none⟩ (.int .i64 0)).heap[WL.heap.size]? = some (.deferred (some []))
        rw [Below.heap_setCell _ ⟨w.heap.size + 1 + 1 + 1, 0, none⟩ _ _ (by show WL.heap.size ≠ w.heap.size + 1 + 1 + 1; omega), Below.heap_setCell _ ⟨w.heap.size + 1 + 1, 0, none⟩ _ _ (by show WL.heap.size ≠ w.heap.size + 1 + 1; omega)]
        exact HD.out
      refine ⟨by simp, .inl ⟨_, _, rfl, run_takeDeferred hd2, ?_⟩⟩
      have r4 := (((M2.out.set_ 0 (.string (x.dt.extract a b))).far (p := ⟨w.heap.size + 1 + 1 + 1, 0, none⟩) (by show w.heap.size + 1 + 1 ≠ w.heap.size + 1 + 1 + 1; omega) (.int .i64 0)).drew).stay (.deferred none) hd2 rfl
      have r5 := (((M3.out.far (p := ⟨w.heap.size + 1 + 1, 0, none⟩) (by show w.heap.size + 1 + 1 + 1 ≠ w.heap.size + 1 + 1; omega) (.string (x.dt.extract a b))).set_ 0 (.int .i64 0)).drew).stay (.deferred none) hd2 rfl
      have t4 := r4.cell 0
      have t5 := r5.cell 0
      refine ⟨.tuple #[.string (x.dt.extract a b), .int .i64 0], by simp [results, Tryz.results86, go_sem, t4, t5], ?_⟩
      have hZ := HBl.out.size
      rw [HRs1.out]
      exact ⟨rfl, below_stay (((HBw.out.setCell (p := ⟨w.heap.size + 1 + 1, 0, none⟩) (by show w.heap.size ≤ w.heap.size + 1 + 1; omega) _).setCell (p := ⟨w.heap.size + 1 + 1 + 1, 0, none⟩) (by show w.heap.size ≤ w.heap.size + 1 + 1 + 1; omega) _).drew) _ (by omega)⟩
    case stop =>
      rintro c W ⟨rfl, s, hs, hk2, hk3, hbe⟩ hD
      have hrs := HRs.out
      rw [hs] at hrs
      have hrs1 : r1 = s := congrArg Prod.fst hrs
      have hrs2 : r2 = 0 := congrArg Prod.snd hrs
      subst hrs1
      subst hrs2
      clear hrs
      have HK2 := hide hk2
      have HK3 := hide hk3
      have HBe := hide hbe
      have HD := hide hD
      clear hk2 hk3 hbe hs hD
      gi_wp2
      refine ⟨by simp, .inl ⟨_, _, rfl, run_takeDeferred HD.out, ?_⟩⟩
      have t4 := (HK2.out.stay (.deferred none) HD.out rfl).cell 0
      have t5 := (HK3.out.stay (.deferred none) HD.out rfl).cell 0
      refine ⟨.tuple #[.string r1, .int .i64 0], by simp [results, Tryz.results86, go_sem, t4, t5], ?_⟩
      have hZ := HBl.out.size
      exact ⟨rfl, below_stay HBe.out _ (by omega)⟩
  · rw [if_pos hp2]
    go_enter Tryz.func86, Tryz.ntmps86
    go_wp2_with (go_at_call 128; rw [← hw0]; refine Calls.mono HPl.out ?_; rintro e w1 ⟨rfl, hb1⟩; have q2 := K2.out.keep hb1; have q3 := K3.out.keep hb1; have c2 := q2.cell 0; have c3 := q3.cell 0; have f2 := q2.free 0; have f3 := q3.free 0; have Q2 := hide q2; have Q3 := hide q3; have HB1 := hide hb1; clear hb1 q2 q3)
    have t2 := ((Q2.out.set_ 0 (.string ⟨#[]⟩)).far (p := ⟨w.heap.size + 1 + 1 + 1, 0, none⟩) (by show w.heap.size + 1 + 1 ≠ w.heap.size + 1 + 1 + 1; omega) (.int .i64 p2)).cell 0
    have t3 := ((Q3.out.far (p := ⟨w.heap.size + 1 + 1, 0, none⟩) (by show w.heap.size + 1 + 1 + 1 ≠ w.heap.size + 1 + 1; omega) (.string ⟨#[]⟩)).set_ 0 (.int .i64 p2)).cell 0
    refine bodyPost_ret (v := .tuple #[.string ⟨#[]⟩, .int .i64 p2]) (by simp [results, Tryz.results86, go_sem, t2, t3]) rfl ?_
    exact ⟨rfl, ((btrans HB0.out HB1.out).setCell (p := ⟨w.heap.size + 1 + 1, 0, none⟩) (by show w.heap.size ≤ w.heap.size + 1 + 1; omega) _).setCell (p := ⟨w.heap.size + 1 + 1 + 1, 0, none⟩) (by show w.heap.size ≤ w.heap.size + 1 + 1 + 1; omega) _⟩
end Go.Proofs.YtmopegpkoedgbaaGreatDoor
/- Walk: (*disk.Dev).Write. -/
namespace Go.Proofs.YtmopegpkoedgbaaGreatDoor
open Go.RowKit Go.Sort

theorem cells_new (w : World) (t : TypeId) (cs : Array Value) : ∀ j u, cs.toList[j]? = some u → (w.alloc (.cells cs t)).cell? ((⟨w.heap.size, 0, none⟩ : Addr).add j) = some u := fun j u hj => by
  have := (Bk.new w t cs).cell j
  rw [Addr.add_lit, Nat.zero_add, this]
  rwa [Array.getElem?_toList] at hj
/-- A disk at work behind a write of one of its cells. -/
theorem DvAt.cells {w : World} {B : Fld} {q : Nat} {E W a c f : Value} {d : Dsk} (hk : Bk w q 117 #[a, E, W, c, f]) (hE : w.ownsRow 0 77 2 E d.exts.length (flatE d.exts)) (hW : w.ownsRow 0 79 3 W d.waits.length (flatW d.waits)) (hq : FB B q w.heap.size E W ∧ d.fuse ≤ 9223372036854775807)
    (h1 : a = .int .i64 d.size) (h2 : c = .int .i64 d.fuse) (h3 : f = .bool d.down) : DvAt w B q d := by
  subst h1 h2 h3; exact ⟨E, W, hk, hE, hW, hq⟩
theorem writeD_bad {d : Dsk} {name : ByteArray} {sec : Int} {data : ByteArray} (h : (placeD d name sec).2 ≠ 0) : writeD d name sec data = (d, (placeD d name sec).2) := by unfold writeD; rw [if_pos h]
theorem own_apart {w : World} {b b' e e' k k' n n' : Nat} {v v' : Value} {xs xs' : List Value} (h : w.ownsRow b e k v n xs) (h' : w.ownsRow b' e' k' v' n' xs') (hne : e ≠ e') {g : Nat} (hg : v.ownBlock = some g) (hg' : v'.ownBlock = some g) : False := by
  rcases h.2 with ⟨rfl, _⟩ | ⟨g1, cap, cur, rfl, _, hh, _⟩
  · simp [Value.ownBlock] at hg
  · obtain rfl : g1 = g := by simpa [Value.ownBlock] using hg
    rcases h'.2 with ⟨rfl, _⟩ | ⟨g2, cap2, cur2, rfl, _, hh2, _⟩
    · simp [Value.ownBlock] at hg'
    · obtain rfl : g2 = g1 := by simpa [Value.ownBlock] using hg'
      rw [hh] at hh2
      simp only [Option.some.injEq, Obj.cells.injEq] at hh2
      exact hne hh2.2.1
/-- An append onto an own row, and where the row lies behind it. -/
theorem run_append_at {P : Program} (w : World) (base : Nat) (t ty e : TypeId) (i : TypeInfo) (z : Value) (size bytes : Nat) (ht : P.underlying t = some (.slice e)) (hi : P.info? e = some i) (hz : i.zero = some z)
    (hsize : i.size = size) (hby : i.bytes = bytes) (hzs : z.cells.size = size) (hsz : 0 < size)
    (v : Value) (n : Nat) (xs : List Value) (hown : w.ownsRow base e size v n xs)
    (a : Addr) (m c : Nat) (news : List Value) (hl : news.length = m * size) (hnews : ∀ j u, news[j]? = some u → w.cell? (a.add j) = some u) (h1 : ∀ u ∈ news, u.oneCell' = true)
    (h63 : n + m ≤ maxLen) (hbytes : (n + m) * bytes ≤ 140737488355328) (hbase : base ≤ w.heap.size) :
    ∃ v' w', (Builtin.append_ #[t, t] ty #[v, .slice (some a) m c]).run P w = .ok v' w' ∧ w'.ownsRow base e size v' (n + m) (xs ++ news) ∧ w.grownBy w' v.ownBlock ∧
      (v' = .slice none 0 0 ↔ v = .slice none 0 0 ∧ m = 0) ∧ ∀ k, v'.ownBlock = some k → v.ownBlock = some k ∨ w.heap.size ≤ k := by
  obtain ⟨v', w', hr, ho, hg, hn⟩ := run_append_own (P := P) w base t ty e i z size bytes ht hi hz hsize hby hzs hsz v n xs hown a m c news hl hnews h1 h63 hbytes hbase
  refine ⟨v', w', hr, ho, hg, hn, fun k hk => ?_⟩
  rcases hown.2 with ⟨rfl, rfl⟩ | ⟨g, cap, cur, rfl, hbg, hgh, hnc, hcm, hcs, htake⟩
  · have hx : xs = [] := List.eq_nil_of_length_eq_zero (by simpa using hown.1)
    subst hx
    obtain ⟨v2, w2, hr2, ho2, _, _⟩ := run_append_own (P := P) w w.heap.size t ty e i z size bytes ht hi hz hsize hby hzs hsz (.slice none 0 0) 0 [] (World.ownsRow_nil _ _ _ _) a m c news hl hnews h1 h63 hbytes (Nat.le_refl _)
    rw [hr] at hr2
    cases hr2
    exact .inr (ho2.lt k hk).1
  · subst hsize
    subst hby
    by_cases hroom : n + m ≤ cap
    · have hfit : n * i.size + news.length ≤ cur.size := by rw [hl, hcs, ← Nat.add_mul]; exact Nat.mul_le_mul_right _ hroom
      have hr2 := run_append_room (P := P) w t ty e i ht hi g n cap cur hgh a m c news hl hnews h1 hroom hfit
      rw [hr] at hr2
      cases hr2
      exact .inl hk
    · have holds : ∀ j u, xs[j]? = some u → w.cell? ((⟨g, 0, none⟩ : Addr).add j) = some u := hown.cells (g := g) rfl
      have hsmall : n + m ≤ 9223372036854775807 := by simp only [maxLen] at h63; omega
      have hr2 := run_append_grow (P := P) w t ty e i z ht hi hz ⟨g, 0, none⟩ n cap xs hown.1 holds a m c news hl hnews (by omega) (by omega) (growslice_fits (by omega) hbytes)
      rw [hr] at hr2
      cases hr2
      simp [Value.ownBlock] at hk
      exact .inr (by omega)
theorem wpList_append_at {P : Program} (w : World) {ops : Array Oper} {rest : List Oper} {o : Oper} {a : Act} {Q : Exit → Act → World → Prop} (hgd : o.guard = none) (s x : Operand) (t : TypeId)
    (ho : o.op = .call { callee := .builtin .append, args := #[s, x], argTypes := #[t, t] })
    (base : Nat) (e : TypeId) (i : TypeInfo) (z : Value) (size bytes : Nat) (ht : P.underlying t = some (.slice e)) (hi : P.info? e = some i) (hz : i.zero = some z)
    (hsize : i.size = size) (hby : i.bytes = bytes) (hzs : z.cells.size = size) (hsz : 0 < size)
    (v : Value) (n : Nat) (xs : List Value) (hs : a.eval s = v) (hown : w.ownsRow base e size v n xs)
    (ad : Addr) (m c : Nat) (news : List Value) (hx : a.eval x = .slice (some ad) m c) (hl : news.length = m * size) (hnews : ∀ j u, news[j]? = some u → w.cell? (ad.add j) = some u) (h1 : ∀ u ∈ news, u.oneCell' = true)
    (h63 : n + m ≤ maxLen) (hbytes : (n + m) * bytes ≤ 140737488355328) (hbase : base ≤ w.heap.size)
    (h : ∀ v' w', w'.ownsRow base e size v' (n + m) (xs ++ news) → w.grownBy w' v.ownBlock → (v' = .slice none 0 0 ↔ v = .slice none 0 0 ∧ m = 0) → (∀ k, v'.ownBlock = some k → v.ownBlock = some k ∨ w.heap.size ≤ k) → wpList P ops Q rest (a.put o.dst v') w') : wpList P ops Q (o :: rest) a w :=
  wpList_plain hgd fun K hK => by
    obtain ⟨v', w', hr, h2, h3, h4, h5⟩ := run_append_at (P := P) w base t o.type e i z size bytes ht hi hz hsize hby hzs hsz v n xs hown ad m c news hl hnews h1 h63 hbytes hbase
    unfold Oper.wp execOp
    simp only [ho, resolve, invoke, builtin, Sem.run_bind, Sem.run_pure, Result.andThen_ok, List.map_toArray, List.map_cons, List.map_nil, hs, hx, hr]
    exact hK _ _ (h v' w' h2 h3 h4 h5)
set_option maxRecDepth 100000 in
set_option maxHeartbeats 4000000 in
theorem write_disk (B : Fld) (q : Nat) (d : Dsk) (name : ByteArray) (sec : Int) (data : ByteArray) (w : World) (hd : DvAt w B q d) (hr : Right d) :
    Calls Tryz.prog 112 #[.pointer (some ⟨q, 0, none⟩), .string name, .int .i64 sec, .string data] w fun e w' => e = .returned (.int .i64 (writeD d name sec data).2) ∧ DvAt w' B q (writeD d name sec data).1 ∧ AFr DTy B w w' := by
  have hpl := place_disk B q d name sec w hd hr
  have HD := hide hd
  by_cases h0 : (placeD d name sec).2 = 0
  · rw [h0] at hpl
    obtain ⟨E, W, hk, hE, hW, hqf⟩ := hd
    have hq := hqf.1
    have hff := hqf.2
    obtain ⟨AW, cW, rfl⟩ := own_formk hW
    obtain ⟨p, hp⟩ : ∃ p, p = (placeD d name sec).1 := ⟨_, rfl⟩
    rw [← hp] at hpl
    have HPl := hide hpl
    have HK := hide hk
    have HE := hide hE
    have HW := hide hW
    have hnw := hr.nwaits
    have HQF := hide hqf
    clear hqf
    have hql := hk.lt
    have hfu := hr.fuse
    have hqs : q < w.heap.size := hk.lt
    by_cases h1 : data.size = 64
    · have h1i : ((data.size : Int) != 64) = false := by simp; omega
      by_cases h2 : d.waits.length = 16384
      · have hwr : writeD d name sec data = (d, 8) := by unfold writeD; rw [if_neg (by rw [h0]; simp), if_neg (by rw [h1]; simp), if_pos h2]
        have h2i : ((d.waits.length : Int) == 16384) = true := by simp; omega
        rw [hwr]
        clear hpl hk hE hW hp hwr h1 h2 h0
        go_enter Tryz.func112, Tryz.ntmps112
        go_wp2_with (go_at_call 128; refine Calls.mono HPl.out ?_; rintro e w1 ⟨rfl, hb1⟩; obtain ⟨d0, d1, d2, d3, d4⟩ := five_cells (HK.out.keep hb1); have HB1 := hide hb1; clear hb1)
        go_ret
        exact ⟨rfl, HD.out.keep HB1.out, AFr.below HB1.out⟩
      · have h2i : ((d.waits.length : Int) == 16384) = false := by simp; omega
        have hlen : d.waits.length < 16384 := by omega
        have hwr : writeD d name sec data = if d.fuse = 0 then ({ d with waits := d.waits ++ [⟨name, sec, data⟩], down := true }, 10)
            else ({ d with waits := d.waits ++ [⟨name, sec, data⟩], fuse := if 0 < d.fuse then d.fuse - 1 else d.fuse }, 0) := by unfold writeD; rw [if_neg (by rw [h0]; simp), if_neg (by rw [h1]; simp), if_neg h2]
        rw [hwr]
        obtain ⟨i0, hi, hz0, hz1, hz2⟩ := info_parts info_wt
        clear hpl hk hE hW hp hwr h1 h2 h0 hr
        have hfin : ∀ (w1 w2 : World) (A2 : Option Addr) (c2 : Nat), Below w.heap.size w w1 → w2.ownsRow 0 79 3 (.slice A2 (d.waits.length + 1) c2) (d.waits.length + 1) (flatW d.waits ++ [.string name, .int .i64 sec, .string data]) →
            (w1.alloc (.cells #[.string name, .int .i64 sec, .string data] 79)).grownBy w2 (Value.slice AW d.waits.length cW).ownBlock → (∀ k, (Value.slice A2 (d.waits.length + 1) c2).ownBlock = some k → (Value.slice AW d.waits.length cW).ownBlock = some k ∨ (w1.alloc (.cells #[.string name, .int .i64 sec, .string data] 79)).heap.size ≤ k) →
            FB B q w2.heap.size E (.slice A2 (d.waits.length + 1) c2) ∧ Bk w2 q 117 #[.int .i64 d.size, E, .slice AW d.waits.length cW, .int .i64 d.fuse, .bool d.down] ∧ AFr DTy B w w2 ∧ w2.ownsRow 0 77 2 E d.exts.length (flatE d.exts) ∧ w2.ownsRow 0 79 3 (.slice A2 (d.waits.length + 1) c2) (d.waits ++ [(⟨name, sec, data⟩ : Wt)]).length (flatW (d.waits ++ [⟨name, sec, data⟩])) := by
          intro w1 w2 A2 c2 hb ho hg hloc
          have hba := btrans hb (ba1 w1 (.cells #[.string name, .int .i64 sec, .string data] 79))
          have hWa := own_keep HW.out hba
          have hKa := HK.out.keep hba
          have hsz := hba.size
          have hsz2 := hg.size
          have htop := HQF.out.1.top
          refine ⟨⟨hq.dev, hq.exts, fun k hk => ?_, by omega⟩, hKa.grown hg (own_ne hWa hKa (by decide)), (AFr.below hba).grown hWa hq.waits (by unfold DTy; simp) hg, ?_, ?_⟩
          · rcases hloc k hk with e | e
            · exact hq.waits k e
            · exact B.fit k (by omega)
          · refine own_fr (own_keep HE.out hba) (Fr.grown hg (S := fun g => (Value.slice AW d.waits.length cW).ownBlock = some g) (fun g hg => hg)) (fun g hg hs => ?_)
            exact own_apart (own_keep HE.out hba) hWa (by decide) hg hs
          · rw [List.length_append, List.length_singleton, flatW_app]; exact ho
        have HFin := hide hfin
        clear hfin
        by_cases f0 : d.fuse = 0
        · rw [if_pos f0]
          rw [f0] at HK
          have F0 := hide f0
          clear f0 hfu
          go_enter Tryz.func112, Tryz.ntmps112
          go_wp2_with (first
            | (go_at_call 128; refine Calls.mono HPl.out ?_; rintro e w1 ⟨rfl, hb1⟩; have hk1 := HK.out.keep hb1; obtain ⟨d0, d1, d2, d3, d4⟩ := five_cells hk1; have hq1 := hk1.lt; have HB1 := hide hb1; clear hb1 hk1)
            | (at_builtin; refine wpList_append_at _ rfl (.tmp 38) (.tmp 43) 23 rfl 0 79 i0 _ 3 40 Tryz.underlying23 hi hz0 hz1 hz2 rfl (by decide) _ _ _ rfl (own_keep HW.out (btrans HB1.out (ba1 _ _))) ⟨w1.heap.size, 0, none⟩ 1 1 [.string name, .int .i64 sec, .string data] rfl rfl (cells_new w1 _ _) (by intro u hu; simp at hu; rcases hu with rfl | rfl | rfl <;> rfl) (by unfold maxLen; omega) (by omega) (Nat.zero_le _) ?_; intro v2 w2 hown2 hgr2 _ hloc2
               obtain ⟨A2, c2, rfl⟩ := own_formk hown2
               obtain ⟨hfb2, hk2, hf2, he2, ho2⟩ := HFin.out w1 w2 A2 c2 HB1.out hown2 hgr2 hloc2
               have HFb2 := hide hfb2
               rw [F0.out] at hk2
               obtain ⟨y0, y1, y2, y3, y4⟩ := five_cells hk2
               have g2 := hk2.free 2
               have g3 := hk2.free 3
               have g4 := hk2.free 4
               have HK2 := hide hk2
               have HF2 := hide hf2
               have HE2 := hide he2
               have HO2 := hide ho2
               clear hk2 hf2 he2 ho2 hown2 hgr2 hloc2 hfb2))
          go_ret
          have k3 := (HK2.out.set_ 2 (.slice A2 (d.waits.length + 1) c2))
          have k4 := k3.set_ 4 (.bool true)
          refine ⟨rfl, DvAt.cells k4 (own_set (own_set HE2.out (p := ⟨q, 2, none⟩) (fun e => own_ne HE2.out HK2.out (by decide) e.symm) _) (p := ⟨q, 4, none⟩) (fun e => own_ne (own_set HE2.out (p := ⟨q, 2, none⟩) (fun e => own_ne HE2.out HK2.out (by decide) e.symm) _) k3 (by decide) e.symm) _) (own_set (own_set HO2.out (p := ⟨q, 2, none⟩) (fun e => own_ne HO2.out HK2.out (by decide) e.symm) _) (p := ⟨q, 4, none⟩) (fun e => own_ne HO2.out HK2.out (by decide) e.symm) _) ⟨by rw [size_setCell, size_setCell]; exact HFb2.out, HQF.out.2⟩ rfl (by rw [F0.out]) rfl, ?_⟩
          exact ((HF2.out.set_ HK2.out hq.dev (by unfold DTy; simp) 2 _).set_ k3 hq.dev (by unfold DTy; simp) 4 _)
        · rw [if_neg f0]
          rcases Int.lt_or_lt_of_ne f0 with f1 | f1
          · have f2 : ¬ 0 < d.fuse := by omega
            rw [if_neg f2]
            have f3 : (d.fuse == 0) = false := by simp [f0]
            have F0 := hide f0
            clear f0 hfu
            go_enter Tryz.func112, Tryz.ntmps112
            go_wp2_with (first
              | (go_at_call 128; refine Calls.mono HPl.out ?_; rintro e w1 ⟨rfl, hb1⟩; have hk1 := HK.out.keep hb1; obtain ⟨d0, d1, d2, d3, d4⟩ := five_cells hk1; have hq1 := hk1.lt; have HB1 := hide hb1; clear hb1 hk1)
              | (at_builtin; refine wpList_append_at _ rfl (.tmp 38) (.tmp 43) 23 rfl 0 79 i0 _ 3 40 Tryz.underlying23 hi hz0 hz1 hz2 rfl (by decide) _ _ _ rfl (own_keep HW.out (btrans HB1.out (ba1 _ _))) ⟨w1.heap.size, 0, none⟩ 1 1 [.string name, .int .i64 sec, .string data] rfl rfl (cells_new w1 _ _) (by intro u hu; simp at hu; rcases hu with rfl | rfl | rfl <;> rfl) (by unfold maxLen; omega) (by omega) (Nat.zero_le _) ?_; intro v2 w2 hown2 hgr2 _ hloc2
                 obtain ⟨A2, c2, rfl⟩ := own_formk hown2
                 obtain ⟨hfb2, hk2, hf2, he2, ho2⟩ := HFin.out w1 w2 A2 c2 HB1.out hown2 hgr2 hloc2
                 have HFb2 := hide hfb2
                 obtain ⟨y0, y1, y2, y3, y4⟩ := five_cells hk2
                 have g2 := hk2.free 2
                 have g3 := hk2.free 3
                 have g4 := hk2.free 4
                 have HK2 := hide hk2
                 have HF2 := hide hf2
                 have HE2 := hide he2
                 have HO2 := hide ho2
                 clear hk2 hf2 he2 ho2 hown2 hgr2 hloc2 hfb2))
            go_ret
            have k3 := (HK2.out.set_ 2 (.slice A2 (d.waits.length + 1) c2))
            refine ⟨rfl, DvAt.cells k3 (own_set HE2.out (p := ⟨q, 2, none⟩) (fun e => own_ne HE2.out HK2.out (by decide) e.symm) _) (own_set HO2.out (p := ⟨q, 2, none⟩) (fun e => own_ne HO2.out HK2.out (by decide) e.symm) _) ⟨by rw [size_setCell]; exact HFb2.out, HQF.out.2⟩ rfl rfl rfl, ?_⟩
            exact (HF2.out.set_ HK2.out hq.dev (by unfold DTy; simp) 2 _)
          · rw [if_pos f1]
            have f3 : (d.fuse == 0) = false := by simp [f0]
            have f4 : IntKind.i64.wrap (d.fuse - 1) = d.fuse - 1 := IntWalk.i64_in _ ⟨by omega, by omega⟩
            have F0 := hide f0
            clear f0 hfu
            go_enter Tryz.func112, Tryz.ntmps112
            go_wp2_with (first
              | (go_at_call 128; refine Calls.mono HPl.out ?_; rintro e w1 ⟨rfl, hb1⟩; have hk1 := HK.out.keep hb1; obtain ⟨d0, d1, d2, d3, d4⟩ := five_cells hk1; have hq1 := hk1.lt; have HB1 := hide hb1; clear hb1 hk1)
              | (at_builtin; refine wpList_append_at _ rfl (.tmp 38) (.tmp 43) 23 rfl 0 79 i0 _ 3 40 Tryz.underlying23 hi hz0 hz1 hz2 rfl (by decide) _ _ _ rfl (own_keep HW.out (btrans HB1.out (ba1 _ _))) ⟨w1.heap.size, 0, none⟩ 1 1 [.string name, .int .i64 sec, .string data] rfl rfl (cells_new w1 _ _) (by intro u hu; simp at hu; rcases hu with rfl | rfl | rfl <;> rfl) (by unfold maxLen; omega) (by omega) (Nat.zero_le _) ?_; intro v2 w2 hown2 hgr2 _ hloc2
                 obtain ⟨A2, c2, rfl⟩ := own_formk hown2
                 obtain ⟨hfb2, hk2, hf2, he2, ho2⟩ := HFin.out w1 w2 A2 c2 HB1.out hown2 hgr2 hloc2
                 have HFb2 := hide hfb2
                 obtain ⟨y0, y1, y2, y3, y4⟩ := five_cells hk2
                 have g2 := hk2.free 2
                 have g3 := hk2.free 3
                 have g4 := hk2.free 4
                 have HK2 := hide hk2
                 have HF2 := hide hf2
                 have HE2 := hide he2
                 have HO2 := hide ho2
                 clear hk2 hf2 he2 ho2 hown2 hgr2 hloc2 hfb2))
            go_ret
            have k3 := (HK2.out.set_ 2 (.slice A2 (d.waits.length + 1) c2))
            have k4 := k3.set_ 3 (.int .i64 (d.fuse - 1))
            refine ⟨rfl, DvAt.cells k4 (own_set (own_set HE2.out (p := ⟨q, 2, none⟩) (fun e => own_ne HE2.out HK2.out (by decide) e.symm) _) (p := ⟨q, 3, none⟩) (fun e => own_ne (own_set HE2.out (p := ⟨q, 2, none⟩) (fun e => own_ne HE2.out HK2.out (by decide) e.symm) _) k3 (by decide) e.symm) _) (own_set (own_set HO2.out (p := ⟨q, 2, none⟩) (fun e => own_ne HO2.out HK2.out (by decide) e.symm) _) (p := ⟨q, 3, none⟩) (fun e => own_ne HO2.out HK2.out (by decide) e.symm) _) ⟨by rw [size_setCell, size_setCell]; exact HFb2.out, by show d.fuse - 1 ≤ _; omega⟩ rfl rfl rfl, ?_⟩
            exact ((HF2.out.set_ HK2.out hq.dev (by unfold DTy; simp) 2 _).set_ k3 hq.dev (by unfold DTy; simp) 3 _)
    · have hwr : writeD d name sec data = (d, 2) := by unfold writeD; rw [if_neg (by rw [h0]; simp), if_pos h1]
      have h1i : ((data.size : Int) != 64) = true := by simp; omega
      rw [hwr]
      clear hpl hk hE hW hp hwr h1 h0
      go_enter Tryz.func112, Tryz.ntmps112
      go_wp2_with (go_at_call 128; refine Calls.mono HPl.out ?_; rintro e w1 ⟨rfl, hb1⟩; obtain ⟨d0, d1, d2, d3, d4⟩ := five_cells (HK.out.keep hb1); have HB1 := hide hb1; clear hb1)
      go_ret
      exact ⟨rfl, HD.out.keep HB1.out, AFr.below HB1.out⟩
  · rw [writeD_bad h0]
    obtain ⟨P, hP⟩ : ∃ P, P = placeD d name sec := ⟨_, rfl⟩
    rw [← hP] at hpl h0 ⊢
    obtain ⟨p1, p2⟩ := P
    dsimp only at hpl h0 ⊢
    have HPl := hide hpl
    have hn : (p2 != 0) = true := by simpa using h0
    clear hpl hP hd
    go_enter Tryz.func112, Tryz.ntmps112
    go_wp2_with (go_at_call 128; refine Calls.mono HPl.out ?_; rintro e w1 ⟨rfl, hb1⟩; have HB1 := hide hb1; clear hb1)
    go_ret
    exact ⟨rfl, HD.out.keep HB1.out, AFr.below HB1.out⟩
end Go.Proofs.YtmopegpkoedgbaaGreatDoor
