/- Lemmas for the row: RdrW, RdrA, RdrB, WtrW, WtrA, PoolO, NumB, Fail, RdrC, WtrC, MrgP, FromW. -/
import Derived.Test.YtmopegpkoedgbaaGreatDoorM02
import Derived.Test.YtmopegpkoedgbaaGreatDoorM06
import Derived.Test.YtmopegpkoedgbaaGreatDoorM13
import Derived.Test.YtmopegpkoedgbaaGreatDoorM15
import Derived.Test.YtmopegpkoedgbaaGreatDoorM16
set_option linter.unusedVariables false
set_option linter.unusedSimpArgs false
/- A reader in memory: words; recs.From, (*recs.Reader).Close. -/
namespace Go.Proofs.YtmopegpkoedgbaaGreatDoor
open Go.RowKit Go.Sort

/-- A reader lies in block g; its arena in block p. -/
def RdAt (w : World) (p g : Nat) (r : Rdr) : Prop := Bk w g 127 #[.pointer (some ⟨p, 0, none⟩), .string r.name, .int .i64 r.width, .int .u64 r.count, .int .i64 r.at_, .int .i64 r.frame, .int .i64 r.held, .int .i64 r.why]
/-- What a reader's or a writer's call may write: its own block, and the arena's. -/
def GFr (g : Nat) (B : Fld) (w w' : World) : Prop := Fr (fun k => k = g ∨ AS ATy B w k) w w'
section
variable {g : Nat} {B : Fld} {a w w' : World}
theorem GFr.refl (g : Nat) (B : Fld) (w : World) : GFr g B w w := Fr.refl _ _
theorem AFr.gfr (h : AFr ATy B w w') (g : Nat) : GFr g B w w' := Fr.mono h fun _ h => .inr h
theorem GFr.trans (h : GFr g B a w) (k : GFr g B w w') : GFr g B a w' := Fr.trans h k fun x hx => by
  rcases hx with rfl | hx
  · exact .inl (.inl rfl)
  · by_cases hl : x < a.heap.size
    · by_cases hg : x = g
      · exact .inl (.inl hg)
      · by_cases ha : AS ATy B a x
        · exact .inl (.inr ha)
        · have := h.block x hl (fun h => h.elim hg ha)
          obtain ⟨h1, cs, t, z, h2, h3⟩ := hx
          rw [this] at h2
          exact .inl (.inr ⟨h1, cs, t, z, h2, h3⟩)
    · exact .inr (by omega)
theorem GFr.drew (h : GFr g B a w) : GFr g B a w.drew := Fr.drew h
theorem GFr.below (h : Below w.heap.size w w') : GFr g B w w' := Fr.below h _
theorem GFr.set_ (h : GFr g B a w) (i : Nat) (u : Value) : GFr g B a (w.setCell ⟨g, i, none⟩ u) := Fr.setCell h (p := ⟨g, i, none⟩) (.inl (.inl rfl)) u
theorem Bk.gfr {k : Nat} {t : TypeId} {cs : Array Value} (hb : Bk w k t cs) (h : GFr g B w w') (ht : ¬ ATy t) (hk : k ≠ g) : Bk w' k t cs := hb.fr h fun hs => by
  rcases hs with e | ⟨_, cs', t', z, h1, h2⟩
  · exact hk e
  · unfold Bk at hb
    rw [hb] at h1
    simp only [Option.some.injEq, Obj.cells.injEq] at h1
    exact ht (by rw [h1.2.1]; exact h2)
theorem RdAt.afr {p : Nat} {r : Rdr} (h : RdAt w p g r) (hf : AFr ATy B w w') : RdAt w' p g r := Bk.afr h hf (by unfold ATy; decide)
theorem RdAt.keep {p : Nat} {r : Rdr} (h : RdAt w p g r) (hf : Below w.heap.size w w') : RdAt w' p g r := Bk.keep h hf
end
theorem eight_cells {w : World} {g : Nat} {t : TypeId} {a b c d e f h i : Value} (k : Bk w g t #[a, b, c, d, e, f, h, i]) : w.cell? ⟨g, 0, none⟩ = some a ∧ w.cell? ⟨g, 1, none⟩ = some b ∧ w.cell? ⟨g, 2, none⟩ = some c ∧ w.cell? ⟨g, 3, none⟩ = some d ∧ w.cell? ⟨g, 4, none⟩ = some e ∧ w.cell? ⟨g, 5, none⟩ = some f ∧ w.cell? ⟨g, 6, none⟩ = some h ∧ w.cell? ⟨g, 7, none⟩ = some i := ⟨k.cell 0, k.cell 1, k.cell 2, k.cell 3, k.cell 4, k.cell 5, k.cell 6, k.cell 7⟩
theorem rd_not : ¬ ATy 127 := by unfold ATy; decide
set_option maxRecDepth 100000 in
set_option maxHeartbeats 4000000 in
theorem from_any (B : Fld) (p : Nat) (name : ByteArray) (a : Ar) (w : World) (ha : ArAt w B p a) (hv : InvA a) :
    Calls Tryz.prog 120 #[.pointer (some ⟨p, 0, none⟩), .string name] w fun e w' => Below w.heap.size w w' ∧ ((fromA a name).2 ≠ 0 → e = .returned (.tuple #[.pointer none, .int .i64 (fromA a name).2])) ∧ ((fromA a name).2 = 0 → ∃ g, w.heap.size ≤ g ∧ e = .returned (.tuple #[.pointer (some ⟨g, 0, none⟩), .int .i64 0]) ∧ RdAt w' p g (fromA a name).1) := by
  obtain ⟨q, fb, hk, hf, hd, hr⟩ := ha
  have hha := headAt_any B q a.dev name w hd hv.dev
  obtain ⟨c0, c1, c2, c3, c4, c5⟩ := six_cells hk
  obtain ⟨F, hF⟩ : ∃ F, F = fromA a name := ⟨_, rfl⟩
  have hFe : F = (⟨name, (headAt a.dev name).1, (headAt a.dev name).2.1, 0, 0, 0, 0⟩, (headAt a.dev name).2.2) := hF
  rw [← hF]
  obtain ⟨H, hH⟩ : ∃ H, H = headAt a.dev name := ⟨_, rfl⟩
  rw [← hH] at hha hFe
  obtain ⟨fw, fc, f3⟩ := H
  dsimp only at hha hFe
  subst hFe
  dsimp only
  have HHa := hide hha
  clear hha hF hH hk hf hd hr hv
  by_cases h : f3 = 0
  · subst h
    go_enter Tryz.func120, Tryz.ntmps120
    go_wp2_with (go_at_call 73; refine Calls.mono HHa.out ?_; rintro e w1 ⟨rfl, hb1⟩; have HB1 := hide hb1; clear hb1)
    refine bodyPost_ret (v := .tuple #[.pointer (some ⟨w1.heap.size, 0, none⟩), .int .i64 0]) (by simp [results, Tryz.results120, go_sem]) rfl ?_
    exact ⟨btrans HB1.out (ba1 _ _), fun h => absurd rfl h, fun _ => ⟨_, HB1.out.size, rfl, Bk.new _ _ _⟩⟩
  · have hb : (f3 != 0) = true := by simp [h]
    go_enter Tryz.func120, Tryz.ntmps120
    go_wp2_with (go_at_call 73; refine Calls.mono HHa.out ?_; rintro e w1 ⟨rfl, hb1⟩; have HB1 := hide hb1; clear hb1)
    refine bodyPost_ret (v := .tuple #[.pointer none, .int .i64 f3]) (by simp [results, Tryz.results120, go_sem]) rfl ?_
    exact ⟨HB1.out, fun _ => rfl, fun h' => absurd h' h⟩
set_option maxRecDepth 100000 in
set_option maxHeartbeats 4000000 in
theorem rclose_any (B : Fld) (p g : Nat) (a : Ar) (r : Rdr) (w : World) (ha : ArAt w B p a) (hr : RdAt w p g r) (hfr : 0 < r.held → r.frame < a.frames.length) :
    Calls Tryz.prog 82 #[.pointer (some ⟨g, 0, none⟩)] w fun e w' => e = .returned (.tuple #[]) ∧ ArAt w' B p (rclose a r).1 ∧ RdAt w' p g (rclose a r).2 ∧ GFr g B w w' := by
  obtain ⟨c0, c1, c2, c3, c4, c5, c6, c7⟩ := eight_cells hr
  have HA := hide ha
  have HR := hide hr
  by_cases h : 0 < r.held
  · have hup := unpin_any B p r.frame a w.drew ha.drew (hfr h)
    have hrc : rclose a r = ((unpinA a (r.frame : Nat)).1, { r with held := 0 }) := by unfold rclose; rw [if_pos h]
    rw [hrc]
    have HUp := hide hup
    have hI : (0 : Int) < (r.held : Int) := by omega
    clear ha hr hfr hup hrc h
    go_enter Tryz.func82, Tryz.ntmps82
    go_upto_region 1 with (fail)
    refine wp_region_still_tail 8 (by kernel_rfl) (by kernel_rfl) ?_
    simp only [List.take_succ_cons, List.take_zero, List.drop_succ_cons, List.drop_zero]
    change wpStill _ _ w.drew _ _ _
    repeat still_step
    refine wpStill_nil ?_
    change wpList _ _ _ _ _ w.drew
    go_wp2_with (go_at_call 124; refine Calls.mono HUp.out ?_; rintro e w1 ⟨rfl, ha1, hf1⟩; have hr1 := (show RdAt w.drew p g r from HR.out).afr hf1; have f6 := Bk.free hr1 6; have d6 := (eight_cells hr1).2.2.2.2.2.2.1; have HA1 := hide ha1; have HR1 := hide hr1; have HF1 := hide hf1; clear ha1 hr1 hf1)
    go_end0
    exact ⟨rfl, HA1.out.far HR1.out rd_not 6 _, Bk.set_ HR1.out 6 _, ((GFr.refl g B w).drew.trans (AFr.gfr HF1.out g)).set_ 6 _⟩
  · have hrc : rclose a r = (a, r) := by unfold rclose; rw [if_neg h]
    rw [hrc]
    have hI : ¬ (0 : Int) < (r.held : Int) := by omega
    clear ha hr hfr hrc h
    go_enter Tryz.func82, Tryz.ntmps82
    go_wp2_with fail
    go_end0
    exact ⟨rfl, HA.out, HR.out, GFr.refl _ _ _⟩
end Go.Proofs.YtmopegpkoedgbaaGreatDoor
/- Walk: (*recs.Reader).hold. -/
namespace Go.Proofs.YtmopegpkoedgbaaGreatDoor
open Go.RowKit Go.Sort

theorem rclose_two (a : Ar) (r : Rdr) : (rclose a r).2 = { r with held := 0 } := by
  unfold rclose
  split
  · rfl
  · have : r.held = 0 := by omega
    cases r; simp at this; subst this; rfl
theorem rclose_inv {a : Ar} (h : InvA a) (r : Rdr) : InvA (rclose a r).1 := by
  unfold rclose
  split
  · exact (unpinA_spec h _).1
  · exact h
set_option maxRecDepth 100000 in
set_option maxHeartbeats 4000000 in
theorem hold_any (B : Fld) (p g : Nat) (a : Ar) (r : Rdr) (w : World) (ha : ArAt w B p a) (hv : InvA a) (hr : RdAt w p g r) (hfr : 0 < r.held → r.frame < a.frames.length) (hat : r.at_ ≤ 1000000000) :
    Calls Tryz.prog 160 #[.pointer (some ⟨g, 0, none⟩)] w fun e w' => e = .returned (.bool (rhold a r).2.2) ∧ ArAt w' B p (rhold a r).1 ∧ RdAt w' p g (rhold a r).2.1 ∧ GFr g B w w' := by
  obtain ⟨c0, c1, c2, c3, c4, c5, c6, c7⟩ := eight_cells hr
  have HA := hide ha
  have HR := hide hr
  obtain ⟨sec, hsec⟩ : ∃ sec, sec = 1 + r.at_ / 64 := ⟨_, rfl⟩
  obtain ⟨k, hk⟩ : ∃ k, k = r.at_ / 64 := ⟨_, rfl⟩
  have hd : (r.at_ : Int) / 64 = (k : Int) := by omega
  have hw1 : (1 : Int) + (k : Int) = (sec : Int) := by omega
  by_cases h : sec = r.held
  · have hrh : rhold a r = (a, r, true) := by unfold rhold; rw [← hsec, if_pos h]
    rw [hrh]
    have hI : ((sec : Int) == (r.held : Int)) = true := by simp; omega
    clear ha hr hfr hrh hv hk hsec
    go_enter Tryz.func160, Tryz.ntmps160
    go_wp2_with fail
    go_ret
    exact ⟨rfl, HA.out, HR.out, GFr.refl _ _ _⟩
  · have hI : ((sec : Int) == (r.held : Int)) = false := by simp; omega
    have hcl := rclose_any B p g a r w ha hr hfr
    have hci := rclose_inv hv r
    rw [rclose_two] at hcl
    obtain ⟨b, hb⟩ : ∃ b, b = (rclose a r).1 := ⟨_, rfl⟩
    have hrh : rhold a r = ((pinA b r.name (sec : Nat)).1, { r with frame := (pinA b r.name (sec : Nat)).2.1, why := (pinA b r.name (sec : Nat)).2.2, held := if (pinA b r.name (sec : Nat)).2.2 = 0 then sec else 0 }, decide ((pinA b r.name (sec : Nat)).2.2 = 0)) := by
      unfold rhold
      rw [← hsec, if_neg h]
      simp only [rclose_two, ← hb]
    rw [hrh]
    rw [← hb] at hcl hci
    have hpn := fun (W : World) (h : ArAt W B p b) => pin_any B p r.name (sec : Nat) b W h hci
    obtain ⟨P, hP⟩ : ∃ P, P = pinA b r.name (sec : Nat) := ⟨_, rfl⟩
    rw [← hP] at hpn ⊢
    obtain ⟨b2, fi, z⟩ := P
    dsimp only at hpn ⊢
    have HCl := hide hcl
    have HPn := hide hpn
    clear ha hr hfr hcl hci hrh hpn hP hb h hv hk hsec
    go_enter Tryz.func160, Tryz.ntmps160
    go_upto_region 5 with (go_at_call 82; refine Calls.mono HCl.out ?_; rintro e w1 ⟨rfl, ha1, hr1, hf1⟩; obtain ⟨d0, d1, d2, d3, d4, d5, d6, d7⟩ := eight_cells hr1; have HA1 := hide ha1; have HR1 := hide hr1; have HF1 := hide hf1; clear ha1 hr1 hf1)
    go_region_law (go_simp; go_at_call 174; refine Calls.mono (HPn.out _ HA1.out.drew) ?_; rintro e w2 ⟨rfl, ha2, hf2⟩; have hr2 := (show RdAt w1.drew p g _ from HR1.out).afr hf2; obtain ⟨t0, t1, t2, t3, t4, t5, t6, t7⟩ := eight_cells hr2; have u5 := Bk.free hr2 5; have u6 := Bk.free hr2 6; have u7 := Bk.free hr2 7; have HA2 := hide ha2; have HR2 := hide hr2; have HF2 := hide hf2; clear ha2 hr2 hf2)
    all_goals
      by_cases hz : z = 0
      · subst hz
        go_wp2_with fail
        go_ret
        have r1 := Bk.set_ HR2.out 5 (.int .i64 fi)
        have r2 := Bk.set_ r1 7 (.int .i64 0)
        have r3 := Bk.set_ r2 6 (.int .i64 sec)
        exact ⟨rfl, ((HA2.out.far HR2.out rd_not 5 _).far r1 rd_not 7 _).far r2 rd_not 6 _, r3, (((HF1.out.drew.trans (AFr.gfr HF2.out g)).set_ 5 _).set_ 7 _).set_ 6 _⟩
      · have hzb : (z == 0) = false := by simp [hz]
        go_wp2_with fail
        go_ret
        have r1 := Bk.set_ HR2.out 5 (.int .i64 fi)
        have r2 := Bk.set_ r1 7 (.int .i64 z)
        exact ⟨rfl, (HA2.out.far HR2.out rd_not 5 _).far r1 rd_not 7 _, r2, ((HF1.out.drew.trans (AFr.gfr HF2.out g)).set_ 5 _).set_ 7 _⟩
end Go.Proofs.YtmopegpkoedgbaaGreatDoor
/- Walk: (*recs.Reader).More. -/
namespace Go.Proofs.YtmopegpkoedgbaaGreatDoor
open Go.RowKit Go.Sort

set_option maxRecDepth 100000 in
set_option maxHeartbeats 4000000 in
theorem more_rd (p g : Nat) (r : Rdr) (w : World) (hr : RdAt w p g r) (hw : r.width ≤ 8) (hc : r.count ≤ 65536) :
    Calls Tryz.prog 121 #[.pointer (some ⟨g, 0, none⟩)] w fun e w' => e = .returned (.bool (rmore r)) ∧ Below w.heap.size w w' := by
  obtain ⟨c0, c1, c2, c3, c4, c5, c6, c7⟩ := eight_cells hr
  have he := fun W => each_any r.width W (by omega)
  obtain ⟨E, hE⟩ : ∃ E, E = eachW r.width := ⟨_, rfl⟩
  have hEl : E ≤ 40 := by rw [hE]; unfold eachW; split <;> omega
  rw [← hE] at he
  obtain ⟨M, hM⟩ : ∃ M, M = E * r.count := ⟨_, rfl⟩
  have hMl : M ≤ 40 * 65536 := by rw [hM]; exact Nat.mul_le_mul hEl hc
  have hMi : (E : Int) * (r.count : Int) = (M : Int) := by rw [hM]; push_cast; rfl
  have hw1 : IntKind.i64.wrap ((E : Int) * (r.count : Int)) = (M : Int) := by rw [hMi, IntWalk.i64_in _ ⟨by omega, by omega⟩]
  have hw2 : IntKind.i64.wrap (r.count : Int) = (r.count : Int) := IntWalk.i64_in _ ⟨by omega, by omega⟩
  have hm : rmore r = (decide (r.why = 0) && decide (r.at_ < M)) := by unfold rmore; rw [← hE, ← hM]
  rw [hm]
  have hq := fun (d : Nat) (os : Array Obj) => Calls.regrown_of (w := w) (d := d) (os := os) ((he (grow (redrawn w d) os)).mono fun e w' ⟨h1, h2⟩ => ⟨h1, by rw [h2]; exact Below.refl _ _⟩)
  have HQ := hide hq
  have hmx : Tryz.prog.follows .mixedOrders = true := by kernel_rfl
  have k0 := cell_regrown c2
  have k1 := cell_regrown c3
  have k2 := cell_regrown c4
  have k3 := cell_regrown c7
  clear hq he hE hM hr hm c0 c1 c2 c3 c4 c5 c6 c7 hMi
  by_cases h1 : r.why = 0
  · have h1b : (r.why == 0) = true := by simp [h1]
    by_cases h2 : r.at_ < M
    · have h2I : decide ((r.at_ : Int) < (M : Int)) = true := decide_eq_true (by omega)
      go_enter Tryz.func121, Tryz.ntmps121
      go_upto_region 1 with (fail)
      with_reducible refine wp_region_quiet_below hmx (by kernel_rfl) ?_
      repeat (with_reducible refine wpQuiet_step (fun K hK => ?_); go_simp; first | (with_reducible refine hK _ ?_; clear hK K) | (with_reducible apply Exists.intro; refine ⟨fun _ => ?_, hK _ ?_⟩; (with_reducible exact HQ.out _ _); clear hK K))
      with_reducible refine wpQuiet_nil ?_
      intro _ hw'
      obtain ⟨⟨dq, osq⟩, hw''⟩ := hw'
      subst hw''
      dsimp only
      have HB4 : Hid (Below w.heap.size w (grow (redrawn w dq) osq)) := hide (below_regrown w dq osq)
      go_wp2_with fail
      go_ret
      exact ⟨by simp [h1, h2], HB4.out⟩
    · have h2I : decide ((r.at_ : Int) < (M : Int)) = false := decide_eq_false (by omega)
      go_enter Tryz.func121, Tryz.ntmps121
      go_upto_region 1 with (fail)
      with_reducible refine wp_region_quiet_below hmx (by kernel_rfl) ?_
      repeat (with_reducible refine wpQuiet_step (fun K hK => ?_); go_simp; first | (with_reducible refine hK _ ?_; clear hK K) | (with_reducible apply Exists.intro; refine ⟨fun _ => ?_, hK _ ?_⟩; (with_reducible exact HQ.out _ _); clear hK K))
      with_reducible refine wpQuiet_nil ?_
      intro _ hw'
      obtain ⟨⟨dq, osq⟩, hw''⟩ := hw'
      subst hw''
      dsimp only
      have HB4 : Hid (Below w.heap.size w (grow (redrawn w dq) osq)) := hide (below_regrown w dq osq)
      go_wp2_with fail
      go_ret
      exact ⟨by simp [h1, h2], HB4.out⟩
  · have h1b : (r.why == 0) = false := by simp [h1]
    go_enter Tryz.func121, Tryz.ntmps121
    go_upto_region 1 with (fail)
    with_reducible refine wp_region_quiet_below hmx (by kernel_rfl) ?_
    repeat (with_reducible refine wpQuiet_step (fun K hK => ?_); go_simp; first | (with_reducible refine hK _ ?_; clear hK K) | (with_reducible apply Exists.intro; refine ⟨fun _ => ?_, hK _ ?_⟩; (with_reducible exact HQ.out _ _); clear hK K))
    with_reducible refine wpQuiet_nil ?_
    intro _ hw'
    obtain ⟨⟨dq, osq⟩, hw''⟩ := hw'
    subst hw''
    dsimp only
    have HB4 : Hid (Below w.heap.size w (grow (redrawn w dq) osq)) := hide (below_regrown w dq osq)
    go_wp2_with fail
    go_ret
    exact ⟨by simp [h1], HB4.out⟩
end Go.Proofs.YtmopegpkoedgbaaGreatDoor
/- A writer in memory: words; (*recs.Writer).close. -/
namespace Go.Proofs.YtmopegpkoedgbaaGreatDoor
open Go.RowKit Go.Sort

/-- A writer lies in block g; its arena in block p. -/
def WrAt (w : World) (p g : Nat) (r : Wtr) : Prop := Bk w g 201 #[.pointer (some ⟨p, 0, none⟩), .string r.name, .int .i64 r.width, .int .u64 r.count, .int .i64 r.at_, .int .i64 r.frame, .int .i64 r.held]
theorem wr_not : ¬ ATy 201 := by unfold ATy; decide
theorem WrAt.afr {w w' : World} {p g : Nat} {B : Fld} {r : Wtr} (h : WrAt w p g r) (hf : AFr ATy B w w') : WrAt w' p g r := Bk.afr h hf wr_not
theorem WrAt.keep {w w' : World} {p g : Nat} {r : Wtr} (h : WrAt w p g r) (hf : Below w.heap.size w w') : WrAt w' p g r := Bk.keep h hf
set_option maxRecDepth 100000 in
set_option maxHeartbeats 4000000 in
theorem wclose_any (B : Fld) (p g : Nat) (a : Ar) (r : Wtr) (w : World) (ha : ArAt w B p a) (hr : WrAt w p g r) (hfr : 0 < r.held → r.frame < a.frames.length) :
    Calls Tryz.prog 133 #[.pointer (some ⟨g, 0, none⟩)] w fun e w' => e = .returned (.tuple #[]) ∧ ArAt w' B p (wclose a r).1 ∧ WrAt w' p g (wclose a r).2 ∧ GFr g B w w' := by
  obtain ⟨c0, c1, c2, c3, c4, c5, c6⟩ := seven_cells hr
  have HA := hide ha
  have HR := hide hr
  by_cases h : 0 < r.held
  · have hup := unpin_any B p r.frame a w.drew ha.drew (hfr h)
    have hrc : wclose a r = ((unpinA a (r.frame : Nat)).1, { r with held := 0 }) := by unfold wclose; rw [if_pos h]
    rw [hrc]
    have HUp := hide hup
    have hI : (0 : Int) < (r.held : Int) := by omega
    clear ha hr hfr hup hrc h
    go_enter Tryz.func133, Tryz.ntmps133
    go_upto_region 1 with (fail)
    refine wp_region_still_tail 8 (by kernel_rfl) (by kernel_rfl) ?_
    simp only [List.take_succ_cons, List.take_zero, List.drop_succ_cons, List.drop_zero]
    change wpStill _ _ w.drew _ _ _
    repeat still_step
    refine wpStill_nil ?_
    change wpList _ _ _ _ _ w.drew
    go_wp2_with (go_at_call 124; refine Calls.mono HUp.out ?_; rintro e w1 ⟨rfl, ha1, hf1⟩; have hr1 := (show WrAt w.drew p g r from HR.out).afr hf1; have f6 := Bk.free hr1 6; have d6 := (seven_cells hr1).2.2.2.2.2.2; have HA1 := hide ha1; have HR1 := hide hr1; have HF1 := hide hf1; clear ha1 hr1 hf1)
    go_end0
    exact ⟨rfl, HA1.out.far HR1.out wr_not 6 _, Bk.set_ HR1.out 6 _, ((GFr.refl g B w).drew.trans (AFr.gfr HF1.out g)).set_ 6 _⟩
  · have hrc : wclose a r = (a, r) := by unfold wclose; rw [if_neg h]
    rw [hrc]
    have hI : ¬ (0 : Int) < (r.held : Int) := by omega
    clear ha hr hfr hrc h
    go_enter Tryz.func133, Tryz.ntmps133
    go_wp2_with fail
    go_end0
    exact ⟨rfl, HA.out, HR.out, GFr.refl _ _ _⟩
end Go.Proofs.YtmopegpkoedgbaaGreatDoor
/- Walk: recs.To. -/
namespace Go.Proofs.YtmopegpkoedgbaaGreatDoor
open Go.RowKit Go.Sort

theorem need_le (width : Int) (count : Nat) (h : (needW width count).2 = 0) : (needW width count).1 ≤ 1000000 ∧ 0 ≤ width ∧ width ≤ 8 := by
  unfold needW at *
  by_cases hc : width < 0 ∨ 8 < width ∨ 65536 < count
  · rw [if_pos hc] at h; simp at h
  · rw [if_neg hc]
    have h1 : eachW width.toNat ≤ 40 := by unfold eachW; split <;> omega
    have h2 : eachW width.toNat * count ≤ 40 * 65536 := Nat.mul_le_mul h1 (by omega)
    dsimp only
    refine ⟨?_, ?_, ?_⟩ <;> omega
set_option maxRecDepth 100000 in
set_option maxHeartbeats 4000000 in
theorem to_any (B : Fld) (p : Nat) (name : ByteArray) (width : Int) (room : Nat) (a : Ar) (w : World) (ha : ArAt w B p a) (hv : InvA a) :
    Calls Tryz.prog 99 #[.pointer (some ⟨p, 0, none⟩), .string name, .int .i64 width, .int .u64 room] w fun e w' => ArAt w' B p (toA a name width room).1 ∧ AFr ATy B w w' ∧ ((toA a name width room).2.2 ≠ 0 → e = .returned (.tuple #[.pointer none, .int .i64 (toA a name width room).2.2])) ∧ ((toA a name width room).2.2 = 0 → ∃ g, w.heap.size ≤ g ∧ e = .returned (.tuple #[.pointer (some ⟨g, 0, none⟩), .int .i64 0]) ∧ WrAt w' p g (toA a name width room).2.1) := by
  have HA := hide ha
  obtain ⟨q, fb, hk, hf, hd, hr⟩ := ha
  obtain ⟨c0, c1, c2, c3, c4, c5⟩ := six_cells hk
  have hl := hk.lt
  have hn := fun W => need_any width room W
  have hnl := need_le width room
  have hta : toA a name width room = if (needW width room).2 ≠ 0 then (a, ⟨⟨#[]⟩, 0, 0, 0, 0, 0⟩, (needW width room).2) else ({ a with dev := (newD a.dev name ((needW width room).1 : Nat)).1 }, ⟨name, width.toNat, 0, 0, 0, 0⟩, (newD a.dev name ((needW width room).1 : Nat)).2) := rfl
  obtain ⟨T, hT⟩ : ∃ T, T = toA a name width room := ⟨_, rfl⟩
  rw [← hT] at hta ⊢
  obtain ⟨N, hN⟩ : ∃ N, N = needW width room := ⟨_, rfl⟩
  rw [← hN] at hta hn hnl
  obtain ⟨n, e1⟩ := N
  dsimp only at hta hn hnl
  by_cases h : e1 = 0
  · subst h
    obtain ⟨hn1, hw0, hw8⟩ := hnl rfl
    rw [if_neg (by simp)] at hta
    have hnd := fun W (hD : DvAt W B q a.dev) => new_disk B q a.dev name (n : Nat) W hD hv.dev (by omega)
    obtain ⟨D, hD⟩ : ∃ D, D = newD a.dev name (n : Nat) := ⟨_, rfl⟩
    rw [← hD] at hta hnd
    obtain ⟨d2, e2⟩ := D
    dsimp only at hta hnd
    subst hta
    dsimp only
    have HN := hide hn
    have HD := hide (hnd w hd)
    have HK := hide hk
    have HF := hide hf
    have HR := hide hr
    have hwi : ((width.toNat : Nat) : Int) = width := by omega
    clear hn hnd hk hf hd hr hT hN hD hnl HA
    by_cases h2 : e2 = 0
    · subst h2
      go_enter Tryz.func99, Tryz.ntmps99
      go_wp2_with (first
        | (go_at_call 85; refine Calls.mono (HN.out _) ?_; rintro e w1 ⟨rfl, rfl⟩)
        | (go_at_call 110; refine Calls.mono HD.out ?_; rintro e w2 ⟨rfl, hd2, hf2⟩; have HD2 := hide hd2; have HF2 := hide hf2; clear hd2 hf2))
      refine bodyPost_ret (v := .tuple #[.pointer (some ⟨w2.heap.size, 0, none⟩), .int .i64 0]) (by simp [results, Tryz.results99, go_sem]) rfl ?_
      have ha2 : ArAt w2 B p { a with dev := d2 } := ⟨q, fb, HK.out.afr HF2.out nd_arena, HF.out.afr HF2.out nd_frame, HD2.out, HR.out⟩
      refine ⟨ha2.keep (ba1 _ _), (HF2.out.wide fun _ => dty_a).trans (AFr.below (ba1 _ _)), fun h => absurd rfl h, fun _ => ⟨_, HF2.out.size, rfl, ?_⟩⟩
      unfold WrAt
      dsimp only
      rw [hwi]
      exact Bk.new _ _ _
    · have hb : (e2 != 0) = true := by simp [h2]
      go_enter Tryz.func99, Tryz.ntmps99
      go_wp2_with (first
        | (go_at_call 85; refine Calls.mono (HN.out _) ?_; rintro e w1 ⟨rfl, rfl⟩)
        | (go_at_call 110; refine Calls.mono HD.out ?_; rintro e w2 ⟨rfl, hd2, hf2⟩; have HD2 := hide hd2; have HF2 := hide hf2; clear hd2 hf2))
      refine bodyPost_ret (v := .tuple #[.pointer none, .int .i64 e2]) (by simp [results, Tryz.results99, go_sem]) rfl ?_
      have ha2 : ArAt w2 B p { a with dev := d2 } := ⟨q, fb, HK.out.afr HF2.out nd_arena, HF.out.afr HF2.out nd_frame, HD2.out, HR.out⟩
      exact ⟨ha2, HF2.out.wide fun _ => dty_a, fun _ => rfl, fun h => absurd h h2⟩
  · rw [if_pos h] at hta
    subst hta
    dsimp only
    have hb : (e1 != 0) = true := by simp [h]
    have hb2 : (e1 == 0) = false := by simp [h]
    have HN := hide hn
    clear hn hk hf hd hr hT hN hnl
    go_enter Tryz.func99, Tryz.ntmps99
    go_wp2_with (go_at_call 85; refine Calls.mono (HN.out _) ?_; rintro e w1 ⟨rfl, rfl⟩)
    refine bodyPost_ret (v := .tuple #[.pointer none, .int .i64 e1]) (by simp [results, Tryz.results99, go_sem]) rfl ?_
    exact ⟨HA.out, AFr.refl _ _ _, fun _ => rfl, fun h' => absurd h' h⟩
end Go.Proofs.YtmopegpkoedgbaaGreatDoor
/- Walk: pool.Over. -/
namespace Go.Proofs.YtmopegpkoedgbaaGreatDoor
open Go.RowKit Go.Sort

theorem info_fr : (Tryz.prog.info? 233).map (fun i => (i.zero, i.size, i.bytes)) = some (some (.agg #[.string ⟨#[]⟩, .int .i64 0, .string ⟨#[]⟩, .int .i64 0, .bool false, .int .u64 0, .bool false]), 7, 72) := by kernel_rfl
theorem made_frames (n : Nat) : madeCells #[Value.string ⟨#[]⟩, .int .i64 0, .string ⟨#[]⟩, .int .i64 0, .bool false, .int .u64 0, .bool false] (n * 7) = (flatF (List.replicate n zeroF)).toArray := by
  apply Array.ext
  · simp [size_madeCells, flatF_length]
  · intro i h1 h2
    rw [size_madeCells] at h1
    have hk : (List.replicate n zeroF)[i / 7]? = some zeroF := by
      rw [List.getElem?_replicate, if_pos (by omega)]
    have hj : i % 7 < 7 := Nat.mod_lt _ (by decide)
    have hg := flatF_get hk (i % 7) hj
    have hi : 7 * (i / 7) + i % 7 = i := by omega
    rw [hi] at hg
    have h3 : (flatF (List.replicate n zeroF)).toArray[i]? = (frmV zeroF)[i % 7]? := by rw [List.getElem?_toArray]; exact hg
    rw [Array.getElem?_eq_getElem h2] at h3
    have h4 : (madeCells #[Value.string ⟨#[]⟩, .int .i64 0, .string ⟨#[]⟩, .int .i64 0, .bool false, .int .u64 0, .bool false] (n * 7))[i] = #[Value.string ⟨#[]⟩, .int .i64 0, .string ⟨#[]⟩, .int .i64 0, .bool false, .int .u64 0, .bool false][i % 7]! := by simp [madeCells]
    rw [h4]
    generalize i % 7 = j at hj h3
    have : j = 0 ∨ j = 1 ∨ j = 2 ∨ j = 3 ∨ j = 4 ∨ j = 5 ∨ j = 6 := by omega
    rcases this with rfl | rfl | rfl | rfl | rfl | rfl | rfl <;> exact (Option.some.inj h3).symm
theorem run_frames (n : Nat) (hn : n ≤ 256) (W : World) : (Instr.makeSlice 134 (.int .i64 n) (.int .i64 n)).run Tryz.prog W = .ok (.slice (some ⟨W.heap.size, 0, none⟩) n n) (W.alloc (.cells (flatF (List.replicate n zeroF)).toArray 233)) := by
  have hi := info_fr
  cases h : Tryz.prog.info? 233 with
  | none => rw [h] at hi; cases hi
  | some i =>
    rw [h] at hi
    simp only [Option.map_some, Option.some.injEq, Prod.mk.injEq] at hi
    obtain ⟨hz, hs, hb⟩ := hi
    have := run_make (P := Tryz.prog) W 134 233 i _ Tryz.underlying134 h hz .i64 .i64 n n (by omega) (by omega) (by rw [hb]; omega) (by omega)
    rw [hs, Int.toNat_natCast] at this
    rw [← made_frames]
    exact this
theorem over_any (B : Fld) (q n : Nat) (d : Dsk) (w : World) (hd : DvAt w B q d)  (h1 : 1 ≤ n) (hn : n ≤ 256) :
    Calls Tryz.prog 77 #[.pointer (some ⟨q, 0, none⟩), .int .i64 n] w fun e w' => ∃ p, e = .returned (.pointer (some ⟨p, 0, none⟩)) ∧ w.heap.size ≤ p ∧ ArAt w' B p (overA d n) ∧ Below w.heap.size w w' := by
  have hmk := fun W => run_frames n hn W
  have htop : B.top ≤ w.heap.size := by obtain ⟨_, _, _, _, _, hfb, _⟩ := hd; exact hfb.top
  have HD := hide hd
  clear hd
  go_enter Tryz.func77, Tryz.ntmps77
  go_wp2_with fail
  go_ret
  have hlen : (overA d n).frames.length = n := List.length_replicate
  refine ⟨w.heap.size + 1, by simp, by omega, ⟨q, w.heap.size, ?_, (Bk.new w _ _).alloc _, HD.out.keep (btrans (ba1 _ _) (ba1 _ _)), B.fit _ (by omega), B.fit _ htop, ?_, ?_, ?_⟩, btrans (ba1 _ _) (ba1 _ _)⟩
  · rw [hlen]; exact Bk.new1 _ _ _ _
  · rw [hlen]; exact h1
  · rw [hlen]; exact hn
  · intro f hf
    obtain rfl : f = zeroF := List.eq_of_mem_replicate hf
    exact ⟨by decide, by decide⟩
end Go.Proofs.YtmopegpkoedgbaaGreatDoor
/- Walk: num.Of of bytes of a row. -/
namespace Go.Proofs.YtmopegpkoedgbaaGreatDoor
open Go.RowKit Go.Sort

set_option maxRecDepth 100000 in
theorem numOfB_any (b o m c : Nat) (s : ByteArray) (w : World) (h : 5 ≤ s.size) (hm5 : 5 ≤ m) (hcell : ∀ j, j < 5 → w.cell? ⟨b, o + j, none⟩ = some (.int .u8 (byt s j : Nat))) : Calls Tryz.prog 123 #[.slice (some ⟨b, o, none⟩) m c] w fun e w' => e = .returned (.int .u64 (ofB ((strL s).take 5) : Nat)) ∧ w' = w := by
  have HCell := hide hcell
  clear hcell
  go_enter Tryz.func123, Tryz.ntmps123
  go_wp2_with fail
  go_loopw [3, 5] (fun v i wr => ∃ k n : Nat, k ≤ 5 ∧ i = .int .i64 k ∧ v = .int .u64 n ∧ Hid (n = ofB ((strL s).take k)) ∧ n < 256 ^ k ∧ w = wr) (fun _ i _ => 5 - (intOf i).toNat)
  case atStart => exact ⟨0, 0, by omega, rfl, rfl, hide (by rw [List.take_zero]; rfl), by decide, rfl⟩
  case round =>
    obtain ⟨k, n, hk, rfl, rfl, hn, hlt, rfl⟩ := hrel
    by_cases h5 : k < 5
    · have hp : 256 ^ k ≤ 256 ^ 4 := Nat.pow_le_pow_right (by decide) (by omega)
      have hnl : n < 4294967296 := Nat.lt_of_lt_of_le hlt hp
      have hks : k < s.size := by omega
      have hck := HCell.out k h5
      obtain ⟨x, hx⟩ : ∃ x, x = byt s k := ⟨_, rfl⟩
      have hc256 : x < 256 := by rw [hx]; exact byt_lt s k
      rw [← hx] at hck
      have hkm : k < m := by omega
      have hst : (strL s).take (k + 1) = (strL s).take k ++ [x] := by rw [hx]; exact strL_take hks
      have b1 : bits .or .u64 ((n : Int) * 256) (x : Int) = ((256 * n + x : Nat) : Int) := by
        rw [show ((n : Int) * 256) = ((n * 256 : Nat) : Int) by omega, bits_or_u64_nat _ x (by omega) (by omega), or_low hc256]
      have hlt2 : 256 * n + x < 256 ^ (k + 1) := by rw [Nat.pow_succ]; omega
      have hn2 : 256 * n + x = ofB ((strL s).take (k + 1)) := by rw [hst, ofB_snoc, ← hn.out]
      have HN2 := hide hn2
      have HL2 := hide hlt2
      obtain ⟨y, hm⟩ : ∃ y, y = 256 * n + x := ⟨_, rfl⟩
      rw [← hm] at b1 HN2 HL2
      clear hx hst hlt hp hlt2 hn2 hm
      go_wp2_with fail
      go_roundw
      case rel => exact ⟨k + 1, y, by omega, by go_num, by first | rfl | go_num, HN2, HL2.out, by first | rfl | trivial⟩
      case measure => simp [intOf]; omega
    · obtain rfl : k = 5 := by omega
      go_wp2_with fail
      go_ret
      exact ⟨by rw [← hn.out]; rfl, rfl⟩
end Go.Proofs.YtmopegpkoedgbaaGreatDoor
/- Walk: flow.Fail. -/
namespace Go.Proofs.YtmopegpkoedgbaaGreatDoor
open Go.RowKit Go.Sort

/-- An error of something that was done lies there. -/
def FailAt (w : World) (v : Value) (doing : ByteArray) (why : Int) : Prop := (why = 0 ∧ v = .nilIface) ∨ (why ≠ 0 ∧ ∃ g, v = .iface 148 (.pointer (some ⟨g, 0, none⟩)) ∧ Bk w g 150 #[.string doing, .iface 30 (.int .i64 why)])
theorem fail_any (doing : ByteArray) (why : Int) (w : World) :
    Calls Tryz.prog 56 #[.string doing, .int .i64 why] w fun e w' => ∃ v, e = .returned v ∧ FailAt w' v doing why ∧ Below w.heap.size w w' := by
  by_cases h : why = 0
  · subst h
    go_enter Tryz.func56, Tryz.ntmps56
    go_wp2_with fail
    go_ret
    exact ⟨_, rfl, .inl ⟨rfl, rfl⟩, Below.refl _ _⟩
  · have hb : (why == 0) = false := by simp [h]
    go_enter Tryz.func56, Tryz.ntmps56
    go_wp2_with fail
    go_ret
    exact ⟨_, rfl, .inr ⟨h, _, rfl, Bk.new _ _ _⟩, ba1 _ _⟩
end Go.Proofs.YtmopegpkoedgbaaGreatDoor
/- A reader over a right pool, plainly: what is pinned holds a sector's bytes; the bytes that come; a record. Words: an arena, a reader, a writer stay behind writes into blocks of other types. -/
namespace Go.Proofs.YtmopegpkoedgbaaGreatDoor
open Go.RowKit Go.Sort

/-- What a reader has pinned holds something. -/
def HeldW (a : Ar) (r : Rdr) : Prop := 0 < r.held → holdsF (getF a r.frame) = true
theorem HeldW.kp {a b : Ar} {r : Rdr} (h : HeldW a r) (k : Kp a b) : HeldW b r := fun h0 => k.hold _ (h h0)
theorem HeldW.lt {a : Ar} {r : Rdr} (h : HeldW a r) : 0 < r.held → r.frame < a.frames.length := fun h0 => hold_lt (h h0)
theorem HeldW.none {a : Ar} {r : Rdr} (h : r.held = 0) : HeldW a r := fun h0 => by omega
theorem rclose_kp {a : Ar} (h : InvA a) (r : Rdr) : Kp a (rclose a r).1 := by
  unfold rclose
  split
  · exact (unpinA_spec h _).2
  · exact Kp.refl a
theorem rhold_sp {a : Ar} (h : InvA a) {r : Rdr} (hh : HeldW a r) : InvA (rhold a r).1 ∧ Kp a (rhold a r).1 ∧ HeldW (rhold a r).1 (rhold a r).2.1 ∧ ((rhold a r).2.2 = true → holdsF (getF (rhold a r).1 (rhold a r).2.1.frame) = true) ∧ (rhold a r).2.1.at_ = r.at_ ∧ (rhold a r).2.1.width = r.width ∧ (rhold a r).2.1.count = r.count ∧ (rhold a r).2.1.name = r.name := by
  unfold rhold
  dsimp only
  by_cases hs : 1 + r.at_ / 64 = r.held
  · rw [if_pos hs]
    exact ⟨h, Kp.refl a, hh, fun _ => hh (by omega), rfl, rfl, rfl, rfl⟩
  · rw [if_neg hs]
    have h1 := rclose_inv h r
    have k1 := rclose_kp h r
    obtain ⟨p1, p2, p3⟩ := pinA_spec h1 r.name (1 + r.at_ / 64 : Nat)
    refine ⟨p1, k1.trans p2, ?_, ?_, ?_, ?_, ?_, ?_⟩
    · intro h0
      dsimp only at h0 ⊢
      by_cases hz : (pinA (rclose a r).1 r.name (1 + r.at_ / 64 : Nat)).2.2 = 0
      · exact (p3 hz).2
      · rw [if_neg hz] at h0; omega
    · intro h0
      exact (p3 (of_decide_eq_true h0)).2
    all_goals simp [rclose_two]
/-- How the next bytes come, if they come. -/
theorem rbytes_sp (n : Nat) : ∀ (f : Nat) (out : ByteArray) {a : Ar} {r : Rdr}, InvA a → HeldW a r → out.size ≤ n →
    InvA (rbytes n f out a r).1 ∧ Kp a (rbytes n f out a r).1 ∧ HeldW (rbytes n f out a r).1 (rbytes n f out a r).2.1 ∧ (rbytes n f out a r).2.1.at_ ≤ r.at_ + (n - out.size) ∧ (rbytes n f out a r).2.1.width = r.width ∧ (rbytes n f out a r).2.1.count = r.count ∧ (rbytes n f out a r).2.1.name = r.name ∧ (∀ s, (rbytes n f out a r).2.2 = some s → s.size = n ∧ (rbytes n f out a r).2.1.at_ = r.at_ + (n - out.size))
  | 0, out, a, r, h, hh, ho => ⟨h, Kp.refl a, hh, by show r.at_ ≤ _; omega, rfl, rfl, rfl, fun s hs => by cases hs⟩
  | f + 1, out, a, r, h, hh, ho => by
    unfold rbytes
    by_cases hlt : out.size < n
    · rw [if_pos hlt]
      obtain ⟨q1, q2, q3, q4, q5, q6, q7, q8⟩ := rhold_sp h hh
      dsimp only
      cases hb : (rhold a r).2.2 with
      | false =>
        rw [if_neg (by decide)]
        exact ⟨q1, q2, q3, by dsimp only; omega, q6, q7, q8, fun s hs => by cases hs⟩
      | true =>
        rw [if_pos rfl]
        have hz := getF_data q1 (q4 hb)
        have hsz : (out ++ (getF (rhold a r).1 (rhold a r).2.1.frame).dt.extract ((rhold a r).2.1.at_ % 64) ((rhold a r).2.1.at_ % 64 + min ((getF (rhold a r).1 (rhold a r).2.1.frame).dt.size - (rhold a r).2.1.at_ % 64) (n - out.size))).size = out.size + min ((getF (rhold a r).1 (rhold a r).2.1.frame).dt.size - (rhold a r).2.1.at_ % 64) (n - out.size) := by
          rw [ByteArray.size_append, ByteArray.size_extract]; omega
        have ih := rbytes_sp n f (out ++ (getF (rhold a r).1 (rhold a r).2.1.frame).dt.extract ((rhold a r).2.1.at_ % 64) ((rhold a r).2.1.at_ % 64 + min ((getF (rhold a r).1 (rhold a r).2.1.frame).dt.size - (rhold a r).2.1.at_ % 64) (n - out.size))) (a := (rhold a r).1) (r := { (rhold a r).2.1 with at_ := (rhold a r).2.1.at_ + min ((getF (rhold a r).1 (rhold a r).2.1.frame).dt.size - (rhold a r).2.1.at_ % 64) (n - out.size) }) q1 q3 (by rw [hsz]; omega)
        obtain ⟨i1, i2, i3, i4, i5, i6, i7, i8⟩ := ih
        rw [hsz] at i4
        rw [hsz] at i8
        refine ⟨i1, q2.trans i2, i3, ?_, i5.trans q6, i6.trans q7, i7.trans q8, fun s hs => ⟨(i8 s hs).1, ?_⟩⟩
        · dsimp only at i4 ⊢
          rw [q5] at i4 ⊢
          omega
        · have := (i8 s hs).2
          dsimp only at this ⊢
          rw [q5] at this ⊢
          have hp : 0 < min ((getF (rhold a r).1 (rhold a r).2.1.frame).dt.size - r.at_ % 64) (n - out.size) := by omega
          omega
    · rw [if_neg hlt]
      exact ⟨h, Kp.refl a, hh, by dsimp only; omega, rfl, rfl, rfl, fun s hs => by cases hs; dsimp only; omega⟩
theorem rnext_sp {a : Ar} (h : InvA a) {r : Rdr} (hh : HeldW a r) : InvA (rnext a r).1 ∧ Kp a (rnext a r).1 ∧ HeldW (rnext a r).1 (rnext a r).2.1 ∧ (rnext a r).2.1.at_ ≤ r.at_ + eachW r.width ∧ (rnext a r).2.1.width = r.width ∧ (rnext a r).2.1.count = r.count ∧ (rnext a r).2.1.name = r.name ∧ (∀ s, (rnext a r).2.2 = some s → s.length = r.width ∧ rmore r = true ∧ (rnext a r).2.1.at_ = r.at_ + eachW r.width) := by
  unfold rnext
  split
  · obtain ⟨i1, i2, i3, i4, i5, i6, i7, i8⟩ := rbytes_sp (eachW r.width) (eachW r.width + 1) ⟨#[]⟩ h hh (Nat.zero_le _)
    refine ⟨i1, i2, i3, i4, i5, i6, i7, ?_⟩
    intro s hs
    obtain ⟨t, ht, rfl⟩ := Option.map_eq_some_iff.1 hs
    exact ⟨by simp, by assumption, (i8 t ht).2⟩
  · exact ⟨h, Kp.refl a, hh, by dsimp only; omega, rfl, rfl, rfl, fun s hs => by cases hs⟩
section
variable {T : TypeId → Prop} {B B' : Fld} {p g : Nat} {w w' : World}
/-- An arena stays behind writes into blocks of other types. -/
theorem ArAt.other {a : Ar} (h : ArAt w B p a) (hf : AFr T B' w w') (hT : ∀ t, ATy t → ¬ T t) : ArAt w' B p a := by
  obtain ⟨q, fb, h1, h2, ⟨E, W, d1, d2, d3, d4⟩, h4⟩ := h
  exact ⟨q, fb, h1.afr hf (hT _ aty_arena), h2.afr hf (hT _ aty_frame), ⟨E, W, d1.afr hf (hT _ (.inl rfl)), own_afr d2 hf (hT _ (.inr (.inl rfl))), own_afr d3 hf (hT _ (.inr (.inr (.inl rfl)))), d4.1.up hf.size, d4.2⟩, h4⟩
theorem RdAt.other {r : Rdr} (h : RdAt w p g r) (hf : AFr T B' w w') (hT : ¬ T 127) : RdAt w' p g r := Bk.afr h hf hT
theorem WrAt.other {r : Wtr} (h : WrAt w p g r) (hf : AFr T B' w w') (hT : ¬ T 201) : WrAt w' p g r := Bk.afr h hf hT
/-- An own row of another type stays behind what a reader's or a writer's call may write. -/
theorem own_gfr {base e size n : Nat} {v : Value} {xs : List Value} (ho : w.ownsRow base e size v n xs) (h : GFr g B w w') (ht : ¬ ATy e) (hg : ∀ k, v.ownBlock = some k → k ≠ g) : w'.ownsRow base e size v n xs := own_fr ho h fun k hv hs => by
  rcases hs with e | ⟨_, cs', t', z, h1, h2⟩
  · exact hg k hv e
  · rcases ho.2 with ⟨rfl, _⟩ | ⟨g', cap, cur, rfl, hb, hh, _⟩
    · simp [Value.ownBlock] at hv
    · have : k = g' := by simpa [Value.ownBlock] using hv.symm
      subst this
      rw [hh] at h1
      simp only [Option.some.injEq, Obj.cells.injEq] at h1
      exact ht (by rw [h1.2.1]; exact h2)
theorem GFr.thenBelow {a w w' : World} {C : Nat} (h : GFr g B a w) (hb : Below C w w') (hC : a.heap.size ≤ C) : GFr g B a w' := Fr.trans h (T := fun k => C ≤ k) ⟨hb.os, hb.tape, hb.output, hb.size, fun i _ hn => hb.block i (by omega)⟩ fun k hk => .inr (Nat.le_trans hC hk)
end
end Go.Proofs.YtmopegpkoedgbaaGreatDoor
/- A writer over a right pool, plainly: what it has pinned holds something, whatever it writes. -/
namespace Go.Proofs.YtmopegpkoedgbaaGreatDoor
open Go.RowKit Go.Sort

/-- What a writer has pinned holds something. -/
def HeldX (a : Ar) (x : Wtr) : Prop := 0 < x.held → holdsF (getF a x.frame) = true
theorem HeldX.kp {a b : Ar} {x : Wtr} (h : HeldX a x) (k : Kp a b) : HeldX b x := fun h0 => k.hold _ (h h0)
theorem HeldX.lt {a : Ar} {x : Wtr} (h : HeldX a x) : 0 < x.held → x.frame < a.frames.length := fun h0 => hold_lt (h h0)
theorem wclose_two (a : Ar) (x : Wtr) : (wclose a x).2 = { x with held := 0 } := by
  unfold wclose
  split
  · rfl
  · have : x.held = 0 := by omega
    cases x; simp at this; subst this; rfl
theorem wclose_inv {a : Ar} (h : InvA a) (x : Wtr) : InvA (wclose a x).1 := by
  unfold wclose
  split
  · exact (unpinA_spec h _).1
  · exact h
theorem wclose_kp {a : Ar} (h : InvA a) (x : Wtr) : Kp a (wclose a x).1 := by
  unfold wclose
  split
  · exact (unpinA_spec h _).2
  · exact Kp.refl a
/-- The sector of the next byte is pinned. -/
def wpin (a : Ar) (x : Wtr) : Ar × Wtr × Int :=
  if 1 + x.at_ / 64 = x.held then (a, x, (0 : Int)) else
    if (pinA (wclose a x).1 x.name ((1 + x.at_ / 64 : Nat) : Int)).2.2 ≠ 0 then ((pinA (wclose a x).1 x.name ((1 + x.at_ / 64 : Nat) : Int)).1, (wclose a x).2, (pinA (wclose a x).1 x.name ((1 + x.at_ / 64 : Nat) : Int)).2.2)
    else ((pinA (wclose a x).1 x.name ((1 + x.at_ / 64 : Nat) : Int)).1, { (wclose a x).2 with frame := (pinA (wclose a x).1 x.name ((1 + x.at_ / 64 : Nat) : Int)).2.1, held := 1 + x.at_ / 64 }, 0)
theorem wraw_step (f : Nat) (b : ByteArray) (a : Ar) (x : Wtr) : wraw (f + 1) b a x = if b.size = 0 then (a, x, 0) else if (wpin a x).2.2 ≠ 0 then wpin a x else
    wraw f (b.extract (min b.size (64 - (wpin a x).2.1.at_ % 64)) b.size) (fillA (wpin a x).1 (wpin a x).2.1.frame ((wpin a x).2.1.at_ % 64) (b.extract 0 (min b.size (64 - (wpin a x).2.1.at_ % 64)))) { (wpin a x).2.1 with at_ := (wpin a x).2.1.at_ + min b.size (64 - (wpin a x).2.1.at_ % 64) } := rfl
theorem wpin_sp {a : Ar} (h : InvA a) {x : Wtr} (hh : HeldX a x) : InvA (wpin a x).1 ∧ Kp a (wpin a x).1 ∧ HeldX (wpin a x).1 (wpin a x).2.1 ∧ ((wpin a x).2.2 = 0 → holdsF (getF (wpin a x).1 (wpin a x).2.1.frame) = true) ∧ (wpin a x).2.1.at_ = x.at_ ∧ (wpin a x).2.1.width = x.width ∧ (wpin a x).2.1.count = x.count ∧ (wpin a x).2.1.name = x.name := by
  unfold wpin
  by_cases hs : 1 + x.at_ / 64 = x.held
  · rw [if_pos hs]
    exact ⟨h, Kp.refl a, hh, fun _ => hh (by omega), rfl, rfl, rfl, rfl⟩
  · rw [if_neg hs]
    have h1 := wclose_inv h x
    have k1 := wclose_kp h x
    obtain ⟨p1, p2, p3⟩ := pinA_spec h1 x.name ((1 + x.at_ / 64 : Nat) : Int)
    by_cases hz : (pinA (wclose a x).1 x.name ((1 + x.at_ / 64 : Nat) : Int)).2.2 = 0
    · rw [if_neg (fun h => h hz)]
      refine ⟨p1, k1.trans p2, fun _ => (p3 hz).2, fun _ => (p3 hz).2, ?_, ?_, ?_, ?_⟩ <;> simp [wclose_two]
    · rw [if_pos hz]
      refine ⟨p1, k1.trans p2, ?_, fun e => absurd e hz, ?_, ?_, ?_, ?_⟩
      · intro h0; simp [wclose_two] at h0
      all_goals simp [wclose_two]
theorem wraw_sp : ∀ (f : Nat) (b : ByteArray) {a : Ar} {x : Wtr}, InvA a → HeldX a x →
    InvA (wraw f b a x).1 ∧ Kp a (wraw f b a x).1 ∧ HeldX (wraw f b a x).1 (wraw f b a x).2.1 ∧ (wraw f b a x).2.1.at_ ≤ x.at_ + b.size ∧ (wraw f b a x).2.1.width = x.width ∧ (wraw f b a x).2.1.count = x.count ∧ (wraw f b a x).2.1.name = x.name
  | 0, b, a, x, h, hh => ⟨h, Kp.refl a, hh, Nat.le_add_right _ _, rfl, rfl, rfl⟩
  | f + 1, b, a, x, h, hh => by
    rw [wraw_step]
    by_cases hb : b.size = 0
    · rw [if_pos hb]
      exact ⟨h, Kp.refl a, hh, Nat.le_add_right _ _, rfl, rfl, rfl⟩
    · rw [if_neg hb]
      obtain ⟨q1, q2, q3, q4, q5, q6, q7, q8⟩ := wpin_sp h hh
      by_cases hz : (wpin a x).2.2 = 0
      · rw [if_neg (by simp [hz])]
        obtain ⟨f1, f2⟩ := fillA_spec q1 (i := (wpin a x).2.1.frame) (at_ := (wpin a x).2.1.at_ % 64) (data := b.extract 0 (min b.size (64 - (wpin a x).2.1.at_ % 64))) (q4 hz) (by rw [ByteArray.size_extract]; omega)
        obtain ⟨i1, i2, i3, i4, i5, i6, i7⟩ := wraw_sp f (b.extract (min b.size (64 - (wpin a x).2.1.at_ % 64)) b.size) (a := fillA (wpin a x).1 (wpin a x).2.1.frame ((wpin a x).2.1.at_ % 64) (b.extract 0 (min b.size (64 - (wpin a x).2.1.at_ % 64)))) (x := { (wpin a x).2.1 with at_ := (wpin a x).2.1.at_ + min b.size (64 - (wpin a x).2.1.at_ % 64) }) f1 (q3.kp f2)
        refine ⟨i1, (q2.trans f2).trans i2, i3, ?_, i5.trans q6, i6.trans q7, i7.trans q8⟩
        refine Nat.le_trans i4 ?_
        rw [ByteArray.size_extract]
        dsimp only
        rw [q5]
        omega
      · rw [if_pos hz]
        exact ⟨q1, q2, q3, by rw [q5]; exact Nat.le_add_right _ _, q6, q7, q8⟩
theorem five_ln (n : Nat) : (five n).length = 5 := rfl
theorem flat_five (l : List Nat) : (l.flatMap five).length = 5 * l.length := by
  induction l with
  | nil => rfl
  | cons a l ih => rw [List.flatMap_cons, List.length_append, ih, five_ln, List.length_cons]; omega
theorem wput_sp {a : Ar} (h : InvA a) {x : Wtr} (hh : HeldX a x) (l : List Nat) : InvA (wput a x l).1 ∧ Kp a (wput a x l).1 ∧ HeldX (wput a x l).1 (wput a x l).2.1 ∧ (wput a x l).2.1.at_ ≤ x.at_ + 5 * l.length ∧ (wput a x l).2.1.width = x.width ∧ (wput a x l).2.1.count = x.count + 1 ∧ (wput a x l).2.1.name = x.name := by
  unfold wput
  obtain ⟨i1, i2, i3, i4, i5, i6, i7⟩ := wraw_sp ((strOf (l.flatMap five)).size + 1) (strOf (l.flatMap five)) (x := { x with count := x.count + 1 }) h hh
  refine ⟨i1, i2, i3, ?_, i5, i6, i7⟩
  refine Nat.le_trans i4 ?_
  rw [strOf_size, flat_five]
  exact Nat.le_refl _
theorem dropA_len (a : Ar) (name : ByteArray) : (dropA a name).1.frames.length = a.frames.length := by
  unfold dropA
  split <;> simp
theorem wseal_sp {a : Ar} (h : InvA a) (x : Wtr) : InvA (wseal a x).1 ∧ (wseal a x).1.frames.length = a.frames.length := by
  have h1 := wclose_inv h x
  have k1 := wclose_kp h x
  obtain ⟨f1, f2⟩ := flushA_spec h1
  have hl := f2.len.trans k1.len
  have key : ∃ cn, wseal a x = if (flushA (wclose a x).1).2 ≠ 0 then ((flushA (wclose a x).1).1, (wclose a x).2, (flushA (wclose a x).1).2) else
      if (writeD (flushA (wclose a x).1).1.dev x.name 0 (headOf x.width cn)).2 ≠ 0 then ({ (flushA (wclose a x).1).1 with dev := (writeD (flushA (wclose a x).1).1.dev x.name 0 (headOf x.width cn)).1 }, (wclose a x).2, (writeD (flushA (wclose a x).1).1.dev x.name 0 (headOf x.width cn)).2)
      else ((dropA { (flushA (wclose a x).1).1 with dev := syncD (writeD (flushA (wclose a x).1).1.dev x.name 0 (headOf x.width cn)).1, writes := inc64 (flushA (wclose a x).1).1.writes } x.name).1, (wclose a x).2, (dropA { (flushA (wclose a x).1).1 with dev := syncD (writeD (flushA (wclose a x).1).1.dev x.name 0 (headOf x.width cn)).1, writes := inc64 (flushA (wclose a x).1).1.writes } x.name).2) := ⟨_, rfl⟩
  obtain ⟨cn, key⟩ := key
  rw [key]
  have hw := writeD_right f1.dev x.name 0 (headOf x.width cn)
  split
  · exact ⟨f1, hl⟩
  split
  · exact ⟨⟨hw, f1.data⟩, hl⟩
  · have hi : InvA { (flushA (wclose a x).1).1 with dev := syncD (writeD (flushA (wclose a x).1).1.dev x.name 0 (headOf x.width cn)).1, writes := inc64 (flushA (wclose a x).1).1.writes } := ⟨settleD_right hw _, f1.data⟩
    exact ⟨dropA_inv hi _, (dropA_len _ _).trans hl⟩
theorem toA_inv {a : Ar} (h : InvA a) (name : ByteArray) (width : Int) (room : Nat) : InvA (toA a name width room).1 ∧ (toA a name width room).1.frames = a.frames := by
  unfold toA
  dsimp only
  split
  · exact ⟨h, rfl⟩
  · exact ⟨⟨newD_right h.dev _ _, h.data⟩, rfl⟩
end Go.Proofs.YtmopegpkoedgbaaGreatDoor
/- Sources of a merge, plainly: what a next record leaves right; no error of a pool's is that of order. No program in sight but for the walked words. -/
namespace Go.Proofs.YtmopegpkoedgbaaGreatDoor
open Go.RowKit

theorem place_err (d : Dsk) (n : ByteArray) (s : Int) : (placeD d n s).2 = 0 ∨ (placeD d n s).2 = 1 ∨ (placeD d n s).2 = 3 := by
  unfold placeD
  split
  · split
    · split <;> simp
    · simp
  · simp
theorem read_not12 (d : Dsk) (n : ByteArray) (s : Int) : (readD d n s).2 ≠ 12 := by
  have h := place_err d n s
  unfold readD
  split
  · dsimp only; omega
  · split <;> simp
theorem writeD_not12 (d : Dsk) (n : ByteArray) (s : Int) (t : ByteArray) : (writeD d n s t).2 ≠ 12 := by
  have h := place_err d n s
  unfold writeD
  split
  · dsimp only; omega
  · split
    · simp
    · split
      · simp
      · split <;> simp
theorem take_not12 (a : Ar) : (takeA a).2.2 ≠ 12 := by
  unfold takeA
  split
  · simp
  · simp
  · split
    · rename_i b _ _
      have h : (writeA a b).2 ≠ 12 := writeD_not12 _ _ _ _
      split
      · exact h
      · simp
    · simp
theorem pinAt_not12 (a : Ar) (i : Nat) : (pinAt a i).2.2 ≠ 12 := by
  unfold pinAt
  split <;> simp
theorem pin_not12 (a : Ar) (n : ByteArray) (s : Int) : (pinA a n s).2.2 ≠ 12 := by
  unfold pinA
  split
  · exact pinAt_not12 _ _
  · split
    · exact read_not12 _ _ _
    · split
      · exact take_not12 _
      · exact pinAt_not12 _ _
theorem hold_not12 (a : Ar) (r : Rdr) (h : r.why ≠ 12) : (rhold a r).2.1.why ≠ 12 := by
  unfold rhold
  dsimp only
  split
  · exact h
  · exact pin_not12 _ _ _
theorem bytes_not12 (n : Nat) : ∀ (f : Nat) (o : ByteArray) (a : Ar) (r : Rdr), r.why ≠ 12 → (rbytes n f o a r).2.1.why ≠ 12
  | 0, _, _, _, h => h
  | f + 1, o, a, r, h => by
    unfold rbytes
    split
    · dsimp only
      split
      · exact bytes_not12 n f _ _ _ (hold_not12 a r h)
      · exact hold_not12 a r h
    · exact h
theorem next_not12 (a : Ar) (r : Rdr) (h : r.why ≠ 12) : (rnext a r).2.1.why ≠ 12 := by
  unfold rnext
  split
  · exact bytes_not12 _ _ _ _ _ h
  · exact h
/-- A source that may be read on. -/
structure SrcOK (a : Ar) (s : Src) : Prop where
  held : HeldW a s.rdr
  w1 : 1 ≤ s.rdr.width
  w8 : s.rdr.width ≤ 8
  cnt : s.rdr.count ≤ 65536
  at_ : s.rdr.at_ ≤ 2700000
  why : s.rdr.why ≠ 12
  last : s.last = [] ∨ s.last.length = s.rdr.width
theorem SrcOK.kp {a b : Ar} {s : Src} (h : SrcOK a s) (k : Kp a b) : SrcOK b s := ⟨h.held.kp k, h.w1, h.w8, h.cnt, h.at_, h.why, h.last⟩
theorem rclose_held (a : Ar) (r : Rdr) : HeldW (rclose a r).1 (rclose a r).2 := HeldW.none (by rw [rclose_two])
/-- What is right behind a source's next record. -/
theorem nextS_sp {a : Ar} (h : InvA a) {s : Src} (ok : SrcOK a s) : InvA (nextS a s).1 ∧ Kp a (nextS a s).1 ∧ SrcOK (nextS a s).1 (nextS a s).2.1 ∧ ((nextS a s).2.1.rdr.width = s.rdr.width) ∧ ((nextS a s).2.1.rdr.count = s.rdr.count) ∧ ((nextS a s).2.2.1 = [] ∨ ((nextS a s).2.2.1.length = s.rdr.width ∧ (nextS a s).2.1.last = (nextS a s).2.2.1 ∧ (nextS a s).2.2.2 = 0)) := by
  obtain ⟨n1, n2, n3, n4, n5, n6, n7, n8⟩ := rnext_sp h ok.held
  have n9 := next_not12 a s.rdr ok.why
  have hE : eachW s.rdr.width = 5 * s.rdr.width := by unfold eachW; rw [if_neg (by have := ok.w1; omega)]
  have hw1 := ok.w1
  have hw8 := ok.w8
  have hc := ok.cnt
  have hat : (rnext a s.rdr).2.1.at_ ≤ 2700000 := by
    by_cases hm : rmore s.rdr = true
    · unfold rmore at hm
      rw [Bool.and_eq_true, decide_eq_true_eq, decide_eq_true_eq, hE] at hm
      rw [hE] at n4
      have : 5 * s.rdr.width * s.rdr.count ≤ 40 * 65536 := Nat.mul_le_mul (by omega) hc
      omega
    · unfold rnext
      rw [if_neg hm]
      exact ok.at_
  unfold nextS
  dsimp only
  split
  · rename_i hn
    have hc2 := rclose_two (rnext a s.rdr).1 (rnext a s.rdr).2.1
    refine ⟨rclose_inv n1 _, n2.trans (rclose_kp n1 _), ⟨rclose_held _ _, ?_, ?_, ?_, ?_, ?_, ?_⟩, ?_, ?_, .inl rfl⟩
    all_goals (dsimp only; rw [hc2]; dsimp only)
    · omega
    · omega
    · omega
    · exact hat
    · exact n9
    · rw [n5]; exact ok.last
    · exact n5
    · exact n6
  · rename_i x hx
    obtain ⟨x1, x2, x3⟩ := n8 x hx
    split
    · exact ⟨n1, n2, ⟨n3, by dsimp only; omega, by dsimp only; omega, by dsimp only; omega, hat, n9, by dsimp only; rw [n5]; exact ok.last⟩, n5, n6, .inl rfl⟩
    · exact ⟨n1, n2, ⟨n3, by dsimp only; omega, by dsimp only; omega, by dsimp only; omega, hat, n9, .inr (by dsimp only; rw [n5]; exact x1)⟩, n5, n6, .inr ⟨x1, rfl, rfl⟩⟩
end Go.Proofs.YtmopegpkoedgbaaGreatDoor
/- What a reader that came of a file is, plainly. -/
namespace Go.Proofs.YtmopegpkoedgbaaGreatDoor
open Go.RowKit

/-- A reader that came of a file is right. -/
theorem headAt_le (d : Dsk) (name : ByteArray) (h : (headAt d name).2.2 = 0) : (headAt d name).1 ≤ 8 ∧ (headAt d name).2.1 ≤ 65536 := by
  unfold headAt at *
  dsimp only at *
  split at h
  · rename_i h1; exact absurd h h1
  · rename_i h1
    rw [if_neg h1]
    split at h
    · rename_i h2; exact absurd h h2
    · rename_i h2
      rw [if_neg h2]
      split at h
      · cases h
      · rename_i h3
        rw [if_neg h3]
        have h4 : (needW ((formB (strL (readD d name 0).1)).1 : Nat) (formB (strL (readD d name 0).1)).2.1).2 = 0 := by
          by_cases e : (needW ((formB (strL (readD d name 0).1)).1 : Nat) (formB (strL (readD d name 0).1)).2.1).2 = 0
          · exact e
          · exact absurd (.inl e) h3
        have h5 := need_le _ _ h4
        refine ⟨by omega, ?_⟩
        unfold needW at h4
        split at h4
        · cases h4
        · omega
theorem fromW_ok {a : Ar} {name : ByteArray} (h : (fromW a name).2.2 = 0) : 1 ≤ (fromW a name).2.1.width ∧ (fromW a name).2.1.width ≤ 8 ∧ (fromW a name).2.1.count ≤ 65536 ∧ (fromW a name).2.1.at_ = 0 ∧ (fromW a name).2.1.held = 0 := by
  unfold fromW fromA at *
  dsimp only at *
  split at h
  · cases h
  · rename_i h1
    have h2 := headAt_le a.dev name h
    refine ⟨?_, h2.1, h2.2, rfl, rfl⟩
    rcases Nat.eq_zero_or_pos (headAt a.dev name).1 with e | e
    · exact absurd ⟨h, e⟩ h1
    · exact e
theorem fromW_inv {a : Ar} (h : InvA a) (name : ByteArray) : InvA (fromW a name).1 := ⟨h.dev, h.data⟩
end Go.Proofs.YtmopegpkoedgbaaGreatDoor
