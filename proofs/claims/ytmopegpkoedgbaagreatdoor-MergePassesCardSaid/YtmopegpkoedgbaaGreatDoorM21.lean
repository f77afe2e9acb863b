/- Lemmas for the row: FlowB, MrgA, MrgB, MrgQ, MrgC, MrgD, MrgE, MrgF, MrgG. -/
import Derived.Test.YtmopegpkoedgbaaGreatDoorM01
import Derived.Test.YtmopegpkoedgbaaGreatDoorM04
import Derived.Test.YtmopegpkoedgbaaGreatDoorM17
import Derived.Test.YtmopegpkoedgbaaGreatDoorM18
import Derived.Test.YtmopegpkoedgbaaGreatDoorM19
import Derived.Test.YtmopegpkoedgbaaGreatDoorM20
set_option linter.unusedVariables false
set_option linter.unusedSimpArgs false
/- Walk: flow.number. -/
namespace Go.Proofs.YtmopegpkoedgbaaGreatDoor
open Go.RowKit Go.Sort

/-- The laid variable that errors.As reads. -/
def LaidE (w : World) : Prop := w.cell? ⟨1, 0, none⟩ = some (.iface 244 (.agg #[.pointer (some ⟨5, 71, none⟩)]))
theorem LaidE.keep {w w' : World} (h : LaidE w) (hb : Below w.heap.size w w') : LaidE w' := (hb.cell (p := ⟨1, 0, none⟩) (World.block_lt_of_cell? w _ h)).trans h
theorem LaidE.lt {w : World} (h : LaidE w) : 1 < w.heap.size := World.block_lt_of_cell? w _ h
set_option maxRecDepth 100000 in
set_option maxHeartbeats 4000000 in
theorem number_any (v : Value) (why : Int) (w : World) (hG : LaidE w) (he : ErrV w v why) :
    Calls Tryz.prog 83 #[v] w fun e w' => e = .returned (.int .i64 why) ∧ Below w.heap.size w w' := by
  by_cases h0 : why = 0
  · subst h0
    obtain rfl := he.zero
    clear he
    go_enter Tryz.func83, Tryz.ntmps83
    go_wp2_with fail
    go_ret
    exact ⟨rfl, ba1 _ _⟩
  · obtain ⟨g, doing, rfl, hk⟩ := he.not h0
    have hgl := hG.lt
    have ht0 : (w.alloc (.cells #[.int .i64 0] 30)).cell? ⟨w.heap.size, 0, none⟩ = some (.int .i64 0) := (Bk.new w _ _).cell 0
    have hf0 : (w.alloc (.cells #[.int .i64 0] 30)).frozen? ⟨w.heap.size, 0, none⟩ = false := (Bk.new w _ _).free 0
    have hg1 : LaidE (w.alloc (.cells #[.int .i64 0] 30)) := hG.keep (ba1 _ _)
    have has := as_trouble g ⟨w.heap.size, 0, none⟩ doing why (.int .i64 0) (w.alloc (.cells #[.int .i64 0] 30)) hg1 (hk.alloc _) ht0 hf0
    have has2 := has.mono (R' := fun ev w' => ev = .returned (.bool true) ∧ w'.cell? ⟨w.heap.size, 0, none⟩ = some (.int .i64 why) ∧ Below w.heap.size w w') (by
      rintro e w' ⟨rfl, rfl⟩
      obtain ⟨W1, hW1⟩ : ∃ W1, W1 = w.alloc (.cells #[.int .i64 0] 30) := ⟨_, rfl⟩
      have hb1 : Below w.heap.size w W1 := by rw [hW1]; exact ba1 _ _
      have hk1 : Bk W1 w.heap.size 30 #[.int .i64 0] := by rw [hW1]; exact Bk.new _ _ _
      rw [← hW1]
      refine ⟨rfl, ?_, ?_⟩
      · exact (((((hk1.alloc _).alloc _).alloc _).alloc _).set_ 0 (.int .i64 why)).cell 0
      · exact ((((hb1.alloc hb1.size _).alloc (by simp; have := hb1.size; omega) _).alloc (by simp; have := hb1.size; omega) _).alloc (by simp; have := hb1.size; omega) _).setCell (p := ⟨w.heap.size, 0, none⟩) (Nat.le_refl _) _)
    have HAs := hide has2
    clear has has2 hk hG hg1 ht0 hf0 he
    go_enter Tryz.func83, Tryz.ntmps83
    go_wp2_with (go_at_call 125; refine Calls.mono HAs.out ?_; rintro e w2 ⟨rfl, hc, hb⟩; have HB := hide hb; clear hb)
    go_ret
    exact ⟨rfl, HB.out⟩
end Go.Proofs.YtmopegpkoedgbaaGreatDoor
/- Sources of a merge in memory; walk: (*merge.source).next. -/
namespace Go.Proofs.YtmopegpkoedgbaaGreatDoor
open Go.RowKit Go.Sort

/-- What may be written beside what a caller keeps: some blocks, and the arena's. -/
def XFr (S : Nat → Prop) (B : Fld) (w w' : World) : Prop := Fr (fun k => S k ∨ AS ATy B w k) w w'
section
variable {S T : Nat → Prop} {B : Fld} {a w w' : World}
theorem XFr.trans (h : XFr S B a w) (k : XFr S B w w') : XFr S B a w' := Fr.trans h k fun x hx => by
  rcases hx with hx | hx
  · exact .inl (.inl hx)
  · by_cases hl : x < a.heap.size
    · by_cases hn : S x ∨ AS ATy B a x
      · exact .inl hn
      · have := h.block x hl hn
        obtain ⟨h1, cs, t, z, h2, h3⟩ := hx
        rw [this] at h2
        exact .inl (.inr ⟨h1, cs, t, z, h2, h3⟩)
    · exact .inr (by omega)
theorem XFr.of {g : Nat} (h : GFr g B w w') (hg : S g) : XFr S B w w' := Fr.mono h fun k hk => hk.elim (fun e => .inl (by rw [e]; exact hg)) .inr
theorem XFr.below (h : Below w.heap.size w w') : XFr S B w w' := Fr.below h _
theorem XFr.drewN (h : XFr S B a w) (n : Nat) : XFr S B a (w.drewN n) := Fr.drewN h n
theorem XFr.set_ (h : XFr S B a w) {k : Nat} (hk : S k ∨ a.heap.size ≤ k) (i : Nat) (u : Value) : XFr S B a (w.setCell ⟨k, i, none⟩ u) := Fr.setCell h (p := ⟨k, i, none⟩) (hk.elim (fun e => .inl (.inl e)) .inr) u
theorem XFr.low {lo : Nat} (h : XFr S B w w') (hS : ∀ k, S k → lo ≤ k) (hB : ∀ k, B.ok k → lo ≤ k) (hl : lo ≤ w.heap.size) : Below lo w w' := Fr.toBelowB h (fun k hk => hk.elim (hS k) fun e => hB k e.1) hl
theorem Bk.xfr {k : Nat} {t : TypeId} {cs : Array Value} (hb : Bk w k t cs) (h : XFr S B w w') (ht : ¬ ATy t) (hk : ¬ S k) : Bk w' k t cs := hb.fr h fun hs => by
  rcases hs with e | ⟨_, cs', t', z, h1, h2⟩
  · exact hk e
  · unfold Bk at hb
    rw [hb] at h1
    simp only [Option.some.injEq, Obj.cells.injEq] at h1
    exact ht (by rw [h1.2.1]; exact h2)
theorem own_xfr {base e size n : Nat} {v : Value} {xs : List Value} (ho : w.ownsRow base e size v n xs) (h : XFr S B w w') (ht : ¬ ATy e) (hg : ∀ k, v.ownBlock = some k → ¬ S k) : w'.ownsRow base e size v n xs := own_fr ho h fun k hv hs => by
  rcases hs with e | ⟨_, cs', t', z, h1, h2⟩
  · exact hg k hv e
  · rcases ho.2 with ⟨rfl, _⟩ | ⟨g', cap, cur, rfl, hb, hh, _⟩
    · simp [Value.ownBlock] at hv
    · have : k = g' := by simpa [Value.ownBlock] using hv.symm
      subst this
      rw [hh] at h1
      simp only [Option.some.injEq, Obj.cells.injEq] at h1
      exact ht (by rw [h1.2.1]; exact h2)
end
/-- A record in memory: nil, or a row of its own. -/
def RowV (w : World) (v : Value) (l : List Nat) : Prop := (l = [] ∧ v = .slice none 0 0) ∨ (l ≠ [] ∧ ∃ g c, v = .slice (some ⟨g, 0, none⟩) l.length c ∧ w.ownsRow 0 27 1 (.slice (some ⟨g, 0, none⟩) l.length c) l.length (vu64 l))
theorem RowV.own {w : World} {v : Value} {l : List Nat} (h : RowV w v l) : ∃ A c, v = .slice A l.length c ∧ w.ownsRow 0 27 1 (.slice A l.length c) l.length (vu64 l) := by
  rcases h with ⟨rfl, rfl⟩ | ⟨_, g, c, rfl, ho⟩
  · exact ⟨none, 0, rfl, ⟨rfl, .inl ⟨rfl, rfl⟩⟩⟩
  · exact ⟨_, c, rfl, ho⟩
theorem RowV.of {w : World} {l : List Nat} {A : Option Addr} {c base : Nat} (h : w.ownsRow base 27 1 (.slice A l.length c) l.length (vu64 l)) (hl : 1 ≤ l.length) : RowV w (.slice A l.length c) l := by
  obtain ⟨g, rfl, _⟩ := own_some h hl
  exact .inr ⟨fun e => by rw [e] at hl; simp at hl, g, c, rfl, own_base h fun _ _ => Nat.zero_le _⟩
theorem RowV.fr {w w' : World} {v : Value} {l : List Nat} (h : RowV w v l) (hf : ∀ v n xs, w.ownsRow 0 27 1 v n xs → w'.ownsRow 0 27 1 v n xs) : RowV w' v l := by
  rcases h with h | ⟨h1, g, c, rfl, ho⟩
  · exact .inl h
  · exact .inr ⟨h1, g, c, rfl, hf _ _ _ ho⟩
theorem src_not : ¬ ATy 155 := by unfold ATy; decide
/-- A source lies in block s, its reader in block g. -/
def SrcAt (w : World) (p s g : Nat) (x : Src) : Prop := ∃ lv, Bk w s 155 #[.pointer (some ⟨g, 0, none⟩), lv] ∧ RdAt w p g x.rdr ∧ RowV w lv x.last
theorem u64_row {w w' : World} {S : Nat → Prop} {B : Fld} (h : XFr S B w w') (hS : ∀ (k : Nat) (t : TypeId) (cs : Array Value) (z : Nat × Nat), S k → w.heap[k]? = some (.cells cs t z) → t ≠ 27) : ∀ v n xs, w.ownsRow 0 27 1 v n xs → w'.ownsRow 0 27 1 v n xs := fun v n xs ho => own_xfr ho h u64_not fun k hk hs => by
  rcases ho.2 with ⟨rfl, _⟩ | ⟨g', cap, cur, rfl, hb, hh, _⟩
  · simp [Value.ownBlock] at hk
  · have : k = g' := by simpa [Value.ownBlock] using hk.symm
    subst this
    exact hS k _ _ _ hs hh rfl
/-- The error of order, as it is laid. -/
def OrdAt (w : World) (o : Addr) : Prop := w.cell? ⟨0, 0, none⟩ = some (.iface 324 (.pointer (some o)))
theorem OrdAt.low {w w' : World} {o : Addr} {lo : Nat} (h : OrdAt w o) (hb : Below lo w w') (hl : 0 < lo) : OrdAt w' o := (hb.cell (p := ⟨0, 0, none⟩) hl).trans h
/-- An error of a merge: that of order, or one that stands for a number. -/
def ErrO (w : World) (o : Addr) (v : Value) (z : Int) : Prop := (z = 12 ∧ v = .iface 324 (.pointer (some o))) ∨ (z ≠ 12 ∧ ErrV w v z)
theorem ErrO.zero {w : World} {o : Addr} {v : Value} (h : ErrO w o v 0) : v = .nilIface := by
  rcases h with ⟨h, _⟩ | ⟨_, h⟩
  · cases h
  · exact h.zero
theorem bk_ty {w : World} {g k : Nat} {t t' : TypeId} {cs cs' : Array Value} {z : Nat × Nat} (h : Bk w g t cs) (e : k = g) (h' : w.heap[k]? = some (.cells cs' t' z)) : t' = t := by
  subst e
  unfold Bk at h
  rw [h] at h'
  simp only [Option.some.injEq, Obj.cells.injEq] at h'
  exact h'.2.1.symm
set_option maxRecDepth 100000 in
set_option maxHeartbeats 8000000 in
theorem snext_any (B : Fld) (p s g lo : Nat) (o : Addr) (a : Ar) (x : Src) (w : World) (hO : OrdAt w o) (hlo : ∀ k, B.ok k → lo ≤ k) (hl : lo ≤ w.heap.size) (hgl : 0 < lo) (hsl : lo ≤ s) (hgg : lo ≤ g) (ha : ArAt w B p a) (hv : InvA a) (hs : SrcAt w p s g x) (ok : SrcOK a x) :
    Calls Tryz.prog 100 #[.pointer (some ⟨s, 0, none⟩)] w fun e w' => ∃ xv ev, e = .returned (.tuple #[xv, ev]) ∧ ArAt w' B p (nextS a x).1 ∧ SrcAt w' p s g (nextS a x).2.1 ∧ XFr (fun k => k = s ∨ k = g) B w w' ∧ RowV w' xv (nextS a x).2.2.1 ∧ ErrO w' o ev (nextS a x).2.2.2 := by
  obtain ⟨lv, hk, hr, hlv⟩ := hs
  have hne := hk.ne_ hr (by decide)
  have hnx := next_any B p g a x.rdr w ha hv hr ok.held ok.w1 ok.w8 ok.cnt (by have := ok.at_; omega)
  obtain ⟨n1, n2, n3, n4, n5, n6, n7, n8⟩ := rnext_sp hv ok.held
  have n9 := next_not12 a x.rdr ok.why
  have hw1 := ok.w1
  have hlast := ok.last
  have hw8 := ok.w8
  obtain ⟨c0, c1⟩ := two_cells hk
  have hlt := hk.lt
  obtain ⟨R, hR⟩ : ∃ R, R = nextS a x := ⟨_, rfl⟩
  rw [← hR]
  unfold nextS at hR
  dsimp only at hR
  obtain ⟨N, hN⟩ : ∃ N, N = rnext a x.rdr := ⟨_, rfl⟩
  rw [← hN] at hnx n1 n2 n3 n4 n5 n6 n7 n8 n9 hR
  obtain ⟨a2, r2, od⟩ := N
  dsimp only at hnx n1 n2 n3 n4 n5 n6 n7 n8 n9 hR
  have HNx := hide hnx
  have HK := hide hk
  have HR0 := hide hr
  have HO := hide hO
  have HLv := hide hlv
  have N3 := hide n3
  have N9 := hide n9
  clear hnx hk hr ha hv ok hN n1 n2 n4 n5 n6 n7 n9 hO hlv
  cases od with
  | none =>
    dsimp only at hR
    have HR := hide hR
    have hcl := fun W h1 h2 => rclose_any B p g a2 r2 W h1 h2 N3.out.lt
    have hc2 := rclose_two a2 r2
    obtain ⟨C, hC⟩ : ∃ C, C = rclose a2 r2 := ⟨_, rfl⟩
    rw [← hC] at hcl hc2 HR
    obtain ⟨a3, r3⟩ := C
    dsimp only at hcl hc2 HR
    have hwy : r3.why = r2.why := by rw [hc2]
    have hfl := fun (d : ByteArray) (z : Int) W => fail_any d z W
    have HCl := hide hcl
    have HFl := hide hfl
    have HWy := hide hwy
    clear hR hcl hfl hC hc2 n8 n3 hwy
    go_enter Tryz.func100, Tryz.ntmps100
    go_wp2_with (first
      | (go_at_call 56; refine Calls.mono (HFl.out _ _ _) ?_; rintro e w3 ⟨ev, rfl, he3, hb3⟩; have HE3 := hide he3; have HB3 := hide hb3; clear he3 hb3)
      | (go_at_call 82; refine Calls.mono (HCl.out _ M1.out M2.out) ?_; rintro e w2 ⟨rfl, q1, q2, q3⟩; have k2 := K1.out.gfr q3 src_not hne; obtain ⟨d0, d1⟩ := two_cells k2; obtain ⟨y0, y1, y2, y3, y4, y5, y6, y7⟩ := eight_cells q2; have l2 := k2.lt; have lg2 := q2.lt; have Q1 := hide q1; have Q2 := hide q2; have Q3 := hide q3; have K2 := hide k2; clear q1 q2 q3 k2)
      | (go_at_call 81; refine Calls.mono HNx.out ?_; rintro e w1 ⟨m1, m2, m3, m4, _⟩; obtain rfl := m4 (by first | rfl | trivial); have k1 := HK.out.gfr m3 src_not hne; obtain ⟨e0, e1⟩ := two_cells k1; have l1 := k1.lt; have M1 := hide m1; have M2 := hide m2; have M3 := hide m3; have K1 := hide k1; clear m1 m2 m3 m4 k1))
    go_ret2
    rw [HR.out]
    have hx2 := (XFr.of (S := fun k => k = s ∨ k = g) M3.out (.inr rfl)).trans (XFr.of Q3.out (.inr rfl))
    have hx3 := hx2.trans (XFr.below HB3.out)
    have hrow := HLv.out.fr (u64_row hx3 (fun k t cs z hs hh => by
      rcases hs with e | e
      · rw [bk_ty HK.out e hh]; decide
      · rw [bk_ty HR0.out e hh]; decide))
    exact ⟨_, _, rfl, Q1.out.keep HB3.out, ⟨lv, K2.out.keep HB3.out, Q2.out.keep HB3.out, hrow⟩, hx3, .inl ⟨rfl, rfl⟩, .inr ⟨by rw [HWy.out]; exact N9.out, ⟨_, HE3.out⟩⟩⟩
  | some l =>
    dsimp only at hR
    obtain ⟨hll, _, _⟩ := n8 l rfl
    have hlw : 1 ≤ l.length := by omega
    have hl8 : l.length ≤ 1000000 := by omega
    have hsome : ∀ (W : World) (h : XFr (fun k => k = s ∨ k = g) B w W), ∀ v n xs, w.ownsRow 0 27 1 v n xs → W.ownsRow 0 27 1 v n xs := fun W h => u64_row h (fun k t cs z hs hh => by
      rcases hs with e | e
      · rw [bk_ty HK.out e hh]; decide
      · rw [bk_ty HR0.out e hh]; decide)
    have HSome := hide hsome
    clear hsome n3 hll
    rcases HLv.out with ⟨hl0, rfl⟩ | ⟨hl0, gb, cb, rfl, hob⟩
    · rw [if_neg (fun e => e.1 hl0)] at hR
      have HR := hide hR
      have HL0 := hide hl0
      clear hR n8 hl0 hlast
      go_enter Tryz.func100, Tryz.ntmps100
      go_wp2_with (go_at_call 81; refine Calls.mono HNx.out ?_; rintro e w1 ⟨m1, m2, m3, _, m5⟩; obtain ⟨A, c, rfl, ho⟩ := m5 l (by first | rfl | trivial); have k1 := HK.out.gfr m3 src_not hne; obtain ⟨e0, e1⟩ := two_cells k1; have e2 := k1.free 1; have l1 := k1.lt; have M1 := hide m1; have M2 := hide m2; have M3 := hide m3; have K1 := hide k1; have HO1 := hide ho; clear m1 m2 m3 m5 k1 ho)
      go_ret2
      rw [HR.out]
      have hx3 := (XFr.of (S := fun k => k = s ∨ k = g) M3.out (.inr rfl)).set_ (k := s) (.inl (.inl rfl)) 1 (.slice A l.length c)
      have ho2 := own_set HO1.out (p := ⟨s, 1, none⟩) (fun e => own_ne HO1.out K1.out (by decide) e.symm) (.slice A l.length c)
      exact ⟨_, _, rfl, M1.out.far K1.out src_not 1 _, ⟨_, K1.out.set_ 1 _, M2.out.far (p := ⟨s, 1, none⟩) (fun e => hne e.symm) _, RowV.of ho2 hlw⟩, hx3, RowV.of ho2 hlw, .inr ⟨(show (0 : Int) ≠ 12 from by decide), ⟨⟨#[]⟩, .inl ⟨rfl, rfl⟩⟩⟩⟩
    · have hlb : x.last.length ≤ 1000000 := by
        rcases hlast with e | e
        · rw [e]; decide
        · omega
      have hles := fun (W : World) (A : Option Addr) (c n : Nat) h1 h2 => nless_any A (some ⟨gb, 0, none⟩) l x.last c cb n W h1 h2 hl8 hlb
      obtain ⟨bl_, hbl⟩ : ∃ b, b = lessL l x.last := ⟨_, rfl⟩
      rw [← hbl] at hles hR
      have HLe := hide hles
      have HOb := hide hob
      have HL0 := hide hl0
      cases bl_ with
      | false =>
        rw [if_neg (fun e => by cases e.2)] at hR
        have HR := hide hR
        clear hR n8 hl0 hlast hles hbl hob hlb
        go_enter Tryz.func100, Tryz.ntmps100
        go_wp2_with (first
          | (go_at_call 37; refine Calls.mono (HLe.out _ _ _ _ HRd1.out HRd2.out) ?_; rintro e w2 ⟨rfl, ew⟩; obtain rfl : w1 = w2 := ew.symm)
          | (go_at_call 81; refine Calls.mono HNx.out ?_; rintro e w1 ⟨m1, m2, m3, _, m5⟩; obtain ⟨A, c, rfl, ho⟩ := m5 l (by first | rfl | trivial); have k1 := HK.out.gfr m3 src_not hne; obtain ⟨e0, e1⟩ := two_cells k1; have e2 := k1.free 1; have l1 := k1.lt; have HRd1 := hide (own_rd ho); have HRd2 := hide (own_rd (HSome.out w1 (XFr.of m3 (.inr rfl)) _ _ _ HOb.out)); have M1 := hide m1; have M2 := hide m2; have M3 := hide m3; have K1 := hide k1; have HO1 := hide ho; clear m1 m2 m3 m5 k1 ho))
        go_ret2
        rw [HR.out]
        have hx3 := (XFr.of (S := fun k => k = s ∨ k = g) M3.out (.inr rfl)).set_ (k := s) (.inl (.inl rfl)) 1 (.slice A l.length c)
        have ho2 := own_set HO1.out (p := ⟨s, 1, none⟩) (fun e => own_ne HO1.out K1.out (by decide) e.symm) (.slice A l.length c)
        exact ⟨_, _, rfl, M1.out.far K1.out src_not 1 _, ⟨_, K1.out.set_ 1 _, M2.out.far (p := ⟨s, 1, none⟩) (fun e => hne e.symm) _, RowV.of ho2 hlw⟩, hx3, RowV.of ho2 hlw, .inr ⟨(show (0 : Int) ≠ 12 from by decide), ⟨⟨#[]⟩, .inl ⟨rfl, rfl⟩⟩⟩⟩
      | true =>
        rw [if_pos ⟨hl0, rfl⟩] at hR
        have HR := hide hR
        clear hR n8 hl0 hlast hles hbl hob hlb
        go_enter Tryz.func100, Tryz.ntmps100
        go_wp2_with (first
          | (go_at_call 37; refine Calls.mono (HLe.out _ _ _ _ HRd1.out HRd2.out) ?_; rintro e w2 ⟨rfl, ew⟩; obtain rfl : w1 = w2 := ew.symm)
          | (go_at_call 81; refine Calls.mono HNx.out ?_; rintro e w1 ⟨m1, m2, m3, _, m5⟩; obtain ⟨A, c, rfl, ho⟩ := m5 l (by first | rfl | trivial); have k1 := HK.out.gfr m3 src_not hne; obtain ⟨e0, e1⟩ := two_cells k1; have e2 := k1.free 1; have l1 := k1.lt; have ho1 : w1.cell? ⟨0, 0, none⟩ = some (.iface 324 (.pointer (some o))) := HO.out.low ((XFr.of (S := fun k => k = s ∨ k = g) m3 (.inr rfl)).low (fun k hk => hk.elim (fun e => by rw [e]; exact hsl) (fun e => by rw [e]; exact hgg)) hlo hl) hgl; have HRd1 := hide (own_rd ho); have HRd2 := hide (own_rd (HSome.out w1 (XFr.of m3 (.inr rfl)) _ _ _ HOb.out)); have M1 := hide m1; have M2 := hide m2; have M3 := hide m3; have K1 := hide k1; clear m1 m2 m3 m5 k1 ho))
        have hgs : 0 < w1.heap.size := World.block_lt_of_cell? w1 _ ho1
        go_quiet (fail)
        go_wp2_with fail
        go_ret2
        rw [HR.out]
        have hx3 := XFr.of (S := fun k => k = s ∨ k = g) M3.out (.inr rfl)
        exact ⟨_, _, rfl, M1.out, ⟨_, K1.out, M2.out, .inr ⟨HL0.out, gb, cb, rfl, HSome.out _ hx3 _ _ _ HOb.out⟩⟩, hx3.drewN _, .inl ⟨rfl, rfl⟩, .inl ⟨rfl, rfl⟩⟩
end Go.Proofs.YtmopegpkoedgbaaGreatDoor
/- Sources of a merge, in memory; walk: merge.sources. -/
namespace Go.Proofs.YtmopegpkoedgbaaGreatDoor
open Go.RowKit Go.Sort

/-- Sources lie in blocks of their own. -/
structure SrcsAt (w : World) (p lo : Nat) (sg : List (Nat × Nat)) (l : List Src) : Prop where
  len : sg.length = l.length
  at_ : ∀ (i : Nat) (q : Nat × Nat) (x : Src), sg[i]? = some q → l[i]? = some x → SrcAt w p q.1 q.2 x
  low : ∀ q ∈ sg, lo ≤ q.1 ∧ lo ≤ q.2
  nd : ∀ (i j : Nat) (q r : Nat × Nat), sg[i]? = some q → sg[j]? = some r → i ≠ j → q.1 ≠ r.1 ∧ q.2 ≠ r.2
theorem SrcsAt.nil (w : World) (p lo : Nat) : SrcsAt w p lo [] [] := ⟨rfl, fun i q x h => by simp at h, fun q h => by simp at h, fun i j q r h => by simp at h⟩
theorem SrcAt.fr {w w' : World} {p s g : Nat} {x : Src} (h : SrcAt w p s g x) (hb : ∀ k t cs, Bk w k t cs → (k = s ∧ t = 155) ∨ (k = g ∧ t = 127) → Bk w' k t cs) (hf : ∀ v n xs, w.ownsRow 0 27 1 v n xs → w'.ownsRow 0 27 1 v n xs) : SrcAt w' p s g x := by
  obtain ⟨lv, h1, h2, h3⟩ := h
  exact ⟨lv, hb _ _ _ h1 (.inl ⟨rfl, rfl⟩), hb _ _ _ h2 (.inr ⟨rfl, rfl⟩), h3.fr hf⟩
theorem SrcAt.keep {w w' : World} {p s g : Nat} {x : Src} (h : SrcAt w p s g x) (hb : Below w.heap.size w w') : SrcAt w' p s g x := h.fr (fun _ _ _ k _ => k.keep hb) (fun _ _ _ k => own_keep k hb)
theorem SrcAt.afr {w w' : World} {B : Fld} {p s g : Nat} {x : Src} (h : SrcAt w p s g x) (hb : AFr ATy B w w') : SrcAt w' p s g x := h.fr (fun k t cs hk ht => hk.afr hb (by
  rcases ht with ⟨_, rfl⟩ | ⟨_, rfl⟩
  · exact src_not
  · exact rd_not)) (fun _ _ _ k => own_afr k hb u64_not)
theorem SrcsAt.fr {w w' : World} {p lo : Nat} {sg : List (Nat × Nat)} {l : List Src} (h : SrcsAt w p lo sg l) (hf : ∀ s g x, (s, g) ∈ sg → SrcAt w p s g x → SrcAt w' p s g x) : SrcsAt w' p lo sg l :=
  ⟨h.len, fun i q x hq hx => hf _ _ _ (List.mem_of_getElem? hq) (h.at_ i q x hq hx), h.low, h.nd⟩
theorem SrcsAt.keep {w w' : World} {p lo : Nat} {sg : List (Nat × Nat)} {l : List Src} (h : SrcsAt w p lo sg l) (hb : Below w.heap.size w w') : SrcsAt w' p lo sg l := h.fr fun _ _ _ _ k => k.keep hb
theorem SrcsAt.afr {w w' : World} {B : Fld} {p lo : Nat} {sg : List (Nat × Nat)} {l : List Src} (h : SrcsAt w p lo sg l) (hb : AFr ATy B w w') : SrcsAt w' p lo sg l := h.fr fun _ _ _ _ k => k.afr hb
theorem SrcsAt.lt {w : World} {p lo : Nat} {sg : List (Nat × Nat)} {l : List Src} (h : SrcsAt w p lo sg l) : ∀ q ∈ sg, q.1 < w.heap.size ∧ q.2 < w.heap.size := fun q hq => by
  obtain ⟨i, hi, rfl⟩ := List.mem_iff_getElem.1 hq
  have hi2 : i < l.length := by rw [← h.len]; exact hi
  obtain ⟨lv, h1, h2, _⟩ := h.at_ i _ _ (List.getElem?_eq_getElem hi) (List.getElem?_eq_getElem hi2)
  exact ⟨h1.lt, Bk.lt h2⟩
/-- One more. -/
theorem SrcsAt.snoc {w : World} {p lo m : Nat} {sg : List (Nat × Nat)} {l : List Src} (h : SrcsAt w p lo sg l) {s g : Nat} {x : Src} (hx : SrcAt w p s g x) (hm : ∀ q ∈ sg, q.1 < m ∧ q.2 < m) (hs : m ≤ s) (hg : m ≤ g) (ls : lo ≤ s) (lg : lo ≤ g) : SrcsAt w p lo (sg ++ [(s, g)]) (l ++ [x]) := by
  refine ⟨by simp [h.len], fun i q y hq hy => ?_, fun q hq => ?_, fun i j q r hq hr hij => ?_⟩
  · rcases Nat.lt_trichotomy i sg.length with hi | hi | hi
    · rw [List.getElem?_append_left hi] at hq
      rw [List.getElem?_append_left (by rw [← h.len]; exact hi)] at hy
      exact h.at_ i q y hq hy
    · subst hi
      rw [List.getElem?_append_right (Nat.le_refl _), Nat.sub_self] at hq
      rw [h.len, List.getElem?_append_right (Nat.le_refl _), Nat.sub_self] at hy
      cases hq
      cases hy
      exact hx
    · rw [List.getElem?_eq_none (by simp; omega)] at hq
      cases hq
  · rcases List.mem_append.1 hq with hq | hq
    · exact h.low q hq
    · rw [List.mem_singleton] at hq
      subst hq
      exact ⟨ls, lg⟩
  · have one : ∀ (i : Nat) (q : Nat × Nat), (sg ++ [(s, g)])[i]? = some q → (i < sg.length ∧ sg[i]? = some q ∧ q.1 < m ∧ q.2 < m) ∨ (i = sg.length ∧ q = (s, g)) := fun i q hq => by
      rcases Nat.lt_trichotomy i sg.length with hi | hi | hi
      · rw [List.getElem?_append_left hi] at hq
        exact .inl ⟨hi, hq, hm q (List.mem_of_getElem? hq)⟩
      · subst hi
        rw [List.getElem?_append_right (Nat.le_refl _), Nat.sub_self] at hq
        cases hq
        exact .inr ⟨rfl, rfl⟩
      · rw [List.getElem?_eq_none (by simp; omega)] at hq
        cases hq
    rcases one i q hq with ⟨a1, a2, a3, a4⟩ | ⟨a1, a2⟩ <;> rcases one j r hr with ⟨b1, b2, b3, b4⟩ | ⟨b1, b2⟩
    · exact h.nd i j q r a2 b2 hij
    · subst b2; exact ⟨by dsimp only; omega, by dsimp only; omega⟩
    · subst a2; exact ⟨by dsimp only; omega, by dsimp only; omega⟩
    · exact absurd (a1.trans b1.symm) hij
/-- Pointers to sources. -/
def ptrS (sg : List (Nat × Nat)) : List Value := sg.map fun q => .pointer (some ⟨q.1, 0, none⟩)
theorem ptrS_length (sg : List (Nat × Nat)) : (ptrS sg).length = sg.length := by simp [ptrS]
def vstr (l : List ByteArray) : List Value := l.map fun s => .string s
theorem psrc_not : ¬ ATy 156 := by unfold ATy; decide
theorem info_psrc : (Tryz.prog.info? 156).map (fun i => (i.zero, i.size, i.bytes)) = some (some (.pointer none), 1, 8) := by kernel_rfl
theorem Rd.str {w : World} {B : Nat} {A : Option Addr} {l : List ByteArray} (h : Rd w B A (vstr l)) {i : Nat} (hi : i < l.length) : ∃ b o x, A = some ⟨b, o, none⟩ ∧ b < B ∧ l[i]? = some x ∧ w.cell? ⟨b, o + i, none⟩ = some (.string x) := by
  obtain ⟨b, o, e, hb, hc⟩ := h i (.string l[i]) (by unfold vstr; rw [List.getElem?_map, List.getElem?_eq_getElem hi]; rfl)
  exact ⟨b, o, l[i], e, hb, List.getElem?_eq_getElem hi, hc⟩
theorem cell_two_new (w : World) (X : Obj) (x : Value) (t : TypeId) : ∀ j u, [x][j]? = some u → ((w.alloc X).alloc (.cells #[x] t)).cell? ((⟨w.heap.size + 1, 0, none⟩ : Addr).add j) = some u := by
  have := cell_one_new (w.alloc X) x t
  rwa [show (w.alloc X).heap.size = w.heap.size + 1 by simp] at this
section
variable {T : TypeId → Prop} {B B' : Fld} {w w' : World} {h p s g lo : Nat}
theorem WkAt.other {was : Dsk} {X : WkX} (hw : WkAt w B h p was X) (hf : AFr T B' w w') (t1 : ¬ T 120) (t2 : ¬ T 77) (t3 : ¬ T 79) : WkAt w' B h p was X := by
  obtain ⟨E0, W0, h1, h2, h3, h4⟩ := hw
  exact ⟨E0, W0, h1.afr hf t1, own_afr h2 hf t2, own_afr h3 hf t3, h4⟩
theorem SrcAt.other {x : Src} (hx : SrcAt w p s g x) (hf : AFr T B' w w') (t1 : ¬ T 155) (t2 : ¬ T 127) (t3 : ¬ T 27) : SrcAt w' p s g x := hx.fr (fun k t cs hk ht => hk.afr hf (by
  rcases ht with ⟨_, rfl⟩ | ⟨_, rfl⟩
  · exact t1
  · exact t2)) (fun _ _ _ k => own_afr k hf t3)
theorem SrcsAt.other {sg : List (Nat × Nat)} {l : List Src} (hx : SrcsAt w p lo sg l) (hf : AFr T B' w w') (t1 : ¬ T 155) (t2 : ¬ T 127) (t3 : ¬ T 27) : SrcsAt w' p lo sg l := hx.fr fun _ _ _ _ k => k.other hf t1 t2 t3
theorem ErrV.other {v : Value} {z : Int} (hx : ErrV w v z) (hf : AFr T B' w w') (t1 : ¬ T 150) : ErrV w' v z := by
  obtain ⟨d, h | ⟨h1, k, h2, h3⟩⟩ := hx
  · exact ⟨d, .inl h⟩
  · exact ⟨d, .inr ⟨h1, k, h2, h3.afr hf t1⟩⟩
end
/-- The pointer at a place of the row of sources. -/
theorem own_ptr {w : World} {base c m : Nat} {A : Option Addr} {sg : List (Nat × Nat)} (h : w.ownsRow base 156 1 (.slice A m c) m (ptrS sg)) {i : Nat} {q : Nat × Nat} (hq : sg[i]? = some q) : ∃ b, A = some ⟨b, 0, none⟩ ∧ b < w.heap.size ∧ i < m ∧ w.cell? ⟨b, i, none⟩ = some (.pointer (some ⟨q.1, 0, none⟩)) := by
  have hm : sg.length = m := by have := h.1; rw [ptrS_length, Nat.mul_one] at this; exact this
  have hi := (List.getElem?_eq_some_iff.1 hq).1
  obtain ⟨b, rfl, _⟩ := own_some h (by omega)
  refine ⟨b, rfl, own_lt h b rfl, by omega, ?_⟩
  have hv : (ptrS sg)[i]? = some (.pointer (some ⟨q.1, 0, none⟩)) := by unfold ptrS; rw [List.getElem?_map, hq]; rfl
  have := h.cells (g := b) rfl i _ hv
  rw [Addr.add_lit, Nat.zero_add] at this
  exact this
set_option maxRecDepth 100000 in
set_option maxHeartbeats 8000000 in
theorem sources_any (B : Fld) (h p lo n cn : Nat) (A : Option Addr) (names : List ByteArray) (was : Dsk) {X : WkX} (a : Ar) (w : World) (hlo : ∀ k, B.ok k → lo ≤ k) (hl : lo ≤ w.heap.size) (hn : n ≤ lo) (hA : Rd w n A (vstr names)) (hnm : ∀ s ∈ names, s.size ≤ 100000000) (hnl : names.length ≤ 1000000) (hw : WkAt w B h p was X) (ha : ArAt w B p a) (hv : InvA a) :
    Calls Tryz.prog 96 #[.pointer (some ⟨h, 0, none⟩), .slice A names.length cn] w fun e w' => ∃ lv sg sm ev, e = .returned (.tuple #[lv, .int .u64 sm, ev]) ∧ ArAt w' B p (sourcesA names a [] 0 0).1 ∧ WkAt w' B h p was X ∧ Below lo w w' ∧ AFr ATy B w w' ∧ ErrV w' ev (sourcesA names a [] 0 0).2.2.2 ∧ ((sourcesA names a [] 0 0).2.2.2 = 0 → sm = (sourcesA names a [] 0 0).2.2.1 ∧ SrcsAt w' p w.heap.size sg (sourcesA names a [] 0 0).2.1 ∧ w'.ownsRow w.heap.size 156 1 lv sg.length (ptrS sg)) := by
  obtain ⟨R, hR⟩ : ∃ R, R = sourcesA names a [] 0 0 := ⟨_, rfl⟩
  rw [← hR]
  obtain ⟨i0, hi0, hz0, hz1, hz2⟩ := info_parts info_psrc
  have hfl := fun (d : ByteArray) (z : Int) W => fail_any d z W
  have HFl := hide hfl
  have HNm := hide hnm
  have HA := hide ha
  have HV := hide hv
  have HW := hide hw
  have HRd := hide hA
  have HR := hide (show R = sourcesA (names.drop 0) a [] 0 0 from hR)
  clear hfl hnm ha hv hw hA hR
  go_enter Tryz.func96, Tryz.ntmps96
  go_upto_region 5 with (fail)
  go_loopw [16, 7, 8, 9] (fun iv ov sv bv wr => ∃ (k sm : Nat) (a2 : Ar) (out : List Src) (sg : List (Nat × Nat)) (bz : Int), iv = .int .i64 k ∧ sv = .int .u64 sm ∧ k ≤ names.length ∧ sm ≤ 65536 * k ∧ sg.length = k ∧ Hid (R = sourcesA (names.drop k) a2 out sm bz) ∧ Hid (ArAt wr B p a2) ∧ Hid (InvA a2) ∧ Hid (WkAt wr B h p was X) ∧ Hid (SrcsAt wr p w.heap.size sg out) ∧ Hid (wr.ownsRow w.heap.size 156 1 ov sg.length (ptrS sg)) ∧ Hid (ErrV wr bv bz) ∧ Hid (Below lo w wr) ∧ w.heap.size ≤ wr.heap.size ∧ Hid (AFr ATy B w wr)) (fun iv _ _ _ _ => names.length - (intOf iv).toNat)
  case atStart => exact ⟨0, 0, a, [], [], 0, rfl, rfl, Nat.zero_le _, Nat.zero_le _, rfl, HR, HA, HV, HW, hide (SrcsAt.nil _ _ _), hide ⟨rfl, .inl ⟨rfl, rfl⟩⟩, hide ⟨⟨#[]⟩, .inl ⟨rfl, rfl⟩⟩, hide (Below.refl _ _), Nat.le_refl _, hide (AFr.refl _ _ _)⟩
  case round =>
    clear HR HA HV HW
    obtain ⟨k, sm, a2, out, sg, bz, rfl, rfl, hk, hsm, hsg, HR, HA, HV, HW, HS, HO, HE, HB, hsz, HF⟩ := hrel
    by_cases hlt : k < names.length
    · obtain ⟨nb, no, x, rfl, hnb, hx, cx⟩ := (HRd.out.below (HB.out.mono hn)).str hlt
      have hxs := HNm.out x (List.mem_of_getElem? hx)
      have hd : names.drop k = x :: names.drop (k + 1) := by
        obtain ⟨h1, h2⟩ := List.getElem?_eq_some_iff.1 hx
        rw [← h2]; exact List.drop_eq_getElem_cons h1
      have hR := HR.out
      rw [hd, sourcesA] at hR
      dsimp only at hR
      have hnbw : nb < wr.heap.size := World.block_lt_of_cell? wr _ cx
      have hfr := wfrom_any B h p x was a2 wr HW.out HA.out HV.out hxs
      have hiv := fromW_inv HV.out x
      have hok := fromW_ok (a := a2) (name := x)
      obtain ⟨F, hF⟩ : ∃ F, F = fromW a2 x := ⟨_, rfl⟩
      rw [← hF] at hR hfr hiv hok
      obtain ⟨a3, r, z⟩ := F
      dsimp only at hR hfr hiv hok
      have HFr := hide hfr
      have HV3 := hide hiv
      have hkI : (k : Int) < (names.length : Int) := by omega
      clear hd hfr hiv hF hx HR
      by_cases hz : z = 0
      · subst hz
        rw [if_neg (by decide)] at hR
        obtain ⟨hw1, hw8, hct, _, _⟩ := hok rfl
        obtain ⟨y, hy⟩ : ∃ y : Src, y = ⟨r, []⟩ := ⟨_, rfl⟩
        rw [← hy] at hR
        have hbs1 : w.heap.size ≤ w.heap.size := Nat.le_refl _
        go_upto_region 11 with (first
          | (go_at_call 78; refine Calls.mono HFr.out ?_; rintro e w1 ⟨pa, ev, rfl, m1, m2, m3, m4⟩; obtain ⟨g, hg, rfl, hrd⟩ := m4 (by first | rfl | trivial); obtain rfl := ErrV.zero m3; have ho2 := own_afr HO.out m2 psrc_not; have hbase : w.heap.size ≤ w1.heap.size + 1 + 1 := (by have := m2.size; omega); have M1 := hide m1; have M2 := hide m2; have HRd1 := hide hrd; have HO2 := hide ho2; have HE1 := hide (HE.out.other m2 trouble_not); clear m1 m2 m3 m4 hrd ho2)
          | (at_builtin; refine wpList_append_own _ rfl (.tmp 29) (.tmp 33) 151 rfl w.heap.size 156 i0 (.pointer none) 1 8 Tryz.underlying151 hi0 hz0 hz1 hz2 rfl (by decide) _ _ _ rfl ((HO2.out.alloc _).alloc _) ⟨w1.heap.size + 1, 0, none⟩ 1 1 [.pointer (some ⟨w1.heap.size, 0, none⟩)] rfl rfl (cell_two_new _ _ _ _) (by intro u hu; simp at hu; subst hu; rfl) (by unfold maxLen; omega) (by omega) (by simp; omega) ?_; intro v3 w3 hown3 hgr3 _; have HO3 := hide hown3; have HG3 := hide hgr3; clear hown3 hgr3))
        obtain ⟨W2, hW2⟩ : ∃ W2, W2 = (w1.alloc (.cells #[.pointer (some ⟨g, 0, none⟩), .slice none 0 0] 155)).alloc (.cells #[.pointer (some ⟨w1.heap.size, 0, none⟩)] 156) := ⟨_, rfl⟩
        have hb2 : Below w1.heap.size w1 W2 := by rw [hW2]; exact ba2 _ _ _
        have ks : Bk W2 w1.heap.size 155 #[.pointer (some ⟨g, 0, none⟩), .slice none 0 0] := by rw [hW2]; exact (Bk.new _ _ _).alloc _
        have ho2 : W2.ownsRow w.heap.size 156 1 u7 sg.length (ptrS sg) := own_keep HO2.out hb2
        have hg3 : W2.grownBy w3 u7.ownBlock := by rw [hW2]; exact HG3.out
        have hs1 : w.heap.size ≤ w1.heap.size := Nat.le_trans hsz M2.out.size
        have hs2 := hb2.size
        have hf3 : AFr (fun t => t = 156) (fl 0) W2 w3 := (AFr.refl _ _ W2).grown ho2 (fun k _ => Nat.zero_le _) rfl hg3
        have hb3 : Below w.heap.size W2 w3 := (Below.refl _ W2).grown hg3 (by omega) (fun k hk => (ho2.lt k hk).1)
        have hb13 : Below w.heap.size w1 w3 := (hb2.mono hs1).trans hb3
        have hrd3 : RdAt w3 p g r := (HRd1.out.keep hb2).other hf3 (by decide)
        have hsx : SrcAt w3 p w1.heap.size g y := by
          rw [hy]
          exact ⟨_, ks.afr hf3 (by decide), hrd3, .inl ⟨rfl, rfl⟩⟩
        have hss := ((HS.out.afr M2.out).keep hb2).other hf3 (by decide) (by decide) (by decide)
        have hss3 := hss.snoc (m := wr.heap.size) hsx HS.out.lt M2.out.size hg hs1 (by omega)
        obtain ⟨A3, c3, rfl⟩ := own_formk HO3.out
        have hpt : ptrS sg ++ [.pointer (some ⟨w1.heap.size, 0, none⟩)] = ptrS (sg ++ [(w1.heap.size, g)]) := by unfold ptrS; rw [List.map_append]; rfl
        have ho3 := HO3.out
        rw [hpt] at ho3
        have hw3 := ((HW.out.afr M2.out).keep hb2).other hf3 (by decide) (by decide) (by decide)
        have ha3 := (M1.out.keep hb2).other hf3 (fun t ht e => psrc_not (by rw [← e]; exact ht))
        have he3 := (HE1.out.keep hb2).other hf3 (by decide)
        have hfr3 : AFr ATy B w w3 := Fr.trans (HF.out.trans M2.out) (T := fun k => w.heap.size ≤ k) ⟨hb13.os, hb13.tape, hb13.output, hb13.size, fun i _ hn => hb13.block i (by omega)⟩ fun k hk => .inr hk
        have HFr3 := hide hfr3
        clear hfr3
        have hlow3 : Below lo w w3 := (HB.out.trans (Fr.toBelowB M2.out (fun k hk => hlo k hk.1) (by omega))).trans (hb13.mono hl)
        obtain ⟨sg2, hsg2⟩ : ∃ sg2, sg2 = sg ++ [(w1.heap.size, g)] := ⟨_, rfl⟩
        obtain ⟨out2, hout2⟩ : ∃ out2, out2 = out ++ [y] := ⟨_, rfl⟩
        rw [← hsg2] at hss3 ho3
        rw [← hout2] at hss3 hR
        have hl2 : sg2.length = k + 1 := by rw [hsg2]; simp [hsg]
        have hl3 : out2.length = k + 1 := by rw [← hss3.len]; exact hl2
        have hl0 : sg.length + 1 = k + 1 := by omega
        rw [hl0] at ho3
        obtain ⟨q0, hq0⟩ : ∃ q0, sg2[0]? = some q0 := ⟨_, List.getElem?_eq_getElem (by omega)⟩
        obtain ⟨x0, hx0⟩ : ∃ x0, out2[0]? = some x0 := ⟨_, List.getElem?_eq_getElem (by omega)⟩
        obtain ⟨lv0, kq, kr, _⟩ := hss3.at_ 0 q0 x0 hq0 hx0
        obtain ⟨rb, rfl, hrb, _, crb⟩ := own_ptr ho3 hq0
        obtain ⟨d0, _⟩ := two_cells kq
        obtain ⟨y0, y1, y2, y3, y4, y5, y6, y7⟩ := eight_cells kr
        obtain ⟨z0, z1, z2, z3, z4, z5, z6, z7⟩ := eight_cells hrd3
        have hlq := kq.lt
        have hlr := Bk.lt kr
        have hlg := Bk.lt hrd3
        have hh0 : ((out2.head?).map fun s => s.rdr.width).getD 0 = x0.rdr.width := by
          rw [List.head?_eq_getElem?, hx0]; rfl
        rw [hh0] at hR
        obtain ⟨wd0, hwd0⟩ : ∃ wd0, wd0 = x0.rdr.width := ⟨_, rfl⟩
        rw [← hwd0] at y2 hR
        obtain ⟨sm2, hsm2⟩ : ∃ sm2, sm2 = sm + r.count := ⟨_, rfl⟩
        rw [← hsm2] at hR
        have hsmI : IntKind.u64.wrap ((sm : Int) + (r.count : Int)) = (sm2 : Int) := by rw [IntWalk.u64_in _ ⟨by omega, by omega⟩]; omega
        have hsmK : sm2 ≤ 65536 * (k + 1) := by omega
        have HSS := hide hss3
        have HO4 := hide ho3
        have HW3 := hide hw3
        have HA3 := hide ha3
        have HE3 := hide he3
        have HLow := hide hlow3
        have hsz3 : w.heap.size ≤ w3.heap.size := by have := hb13.size; omega
        have HG4 := hide (show ErrV w3 _ bz from he3)
        clear hb2 ks ho2 hg3 hs2 hf3 hb3 hb13 hrd3 hsx hss hss3 hpt ho3 hw3 ha3 he3 hlow3 hW2 HG3 HO3 M1 M2 HRd1 HO2 HE1 HO HA HW HS HE HB hok hsg2 hout2 hy hq0 hx0 kq kr hh0 hwd0 hsm2 y0 y1 y3 y4 y5 y6 y7 z0 z1 z4 z5 z6 z7 cx HFr
        rw [hl0]
        by_cases hwe : r.width = wd0
        · rw [if_neg (show ¬ (r.width ≠ wd0) from fun e => e hwe)] at hR
          have hweI : ((r.width : Int) != (wd0 : Int)) = false := by simp; omega
          by_cases hbig : 65536 < sm2
          · rw [if_pos hbig] at hR
            have hbigI : (65536 : Int) < (sm2 : Int) := by omega
            have HR := hide hR
            clear hR
            go_quiet (fail)
            have HAc : Hid (Below w3.heap.size w3 (w3.drewN nq)) := hide (below_drewN (Below.refl _ _) nq)
            go_wp2_with (go_at_call 56; refine Calls.mono (HFl.out _ _ _) ?_; rintro e w5 ⟨ev, rfl, he5, hb5⟩; have HE5 := hide he5; have HAc := hide (btrans HAc.out hb5); have x3 : w5.cell? ⟨g, 3, none⟩ = some (.int .u64 r.count) := (HAc.out.cell (p := ⟨g, 3, none⟩) hlg).trans z3; have x4 : g < w5.heap.size := Nat.lt_of_lt_of_le hlg HAc.out.size; clear he5 hb5)
            exact ⟨⟨k + 1, sm2, a3, out2, sg2, 1, v_int (by omega), rfl, by omega, hsmK, hl2, HR, hide (HA3.out.keep HAc.out), HV3, hide (HW3.out.keep HAc.out), hide (HSS.out.keep HAc.out), hide (by rw [hl2]; exact own_keep HO4.out HAc.out), hide ((⟨_, HE5.out⟩ : ErrV w5 ev 1)), hide (HLow.out.trans (HAc.out.mono (by omega))), Nat.le_trans hsz3 HAc.out.size, hide (Fr.trans HFr3.out (T := fun k => w3.heap.size ≤ k) ⟨HAc.out.os, HAc.out.tape, HAc.out.output, HAc.out.size, fun i _ hn => HAc.out.block i (by omega)⟩ fun k hk => .inr (Nat.le_trans hsz3 hk))⟩, by simp [intOf]; omega⟩
          · rw [if_neg hbig] at hR
            have hbigI : ¬ (65536 : Int) < (sm2 : Int) := by omega
            have HR := hide hR
            clear hR
            go_quiet (fail)
            have HAc : Hid (Below w3.heap.size w3 (w3.drewN nq)) := hide (below_drewN (Below.refl _ _) nq)
            go_wp2_with fail
            exact ⟨⟨k + 1, sm2, a3, out2, sg2, bz, v_int (by omega), rfl, by omega, hsmK, hl2, HR, hide (HA3.out.keep HAc.out), HV3, hide (HW3.out.keep HAc.out), hide (HSS.out.keep HAc.out), hide (by rw [hl2]; exact own_keep HO4.out HAc.out), hide (HE3.out.keep HAc.out), hide (HLow.out.trans (HAc.out.mono (by omega))), Nat.le_trans hsz3 HAc.out.size, hide (Fr.trans HFr3.out (T := fun k => w3.heap.size ≤ k) ⟨HAc.out.os, HAc.out.tape, HAc.out.output, HAc.out.size, fun i _ hn => HAc.out.block i (by omega)⟩ fun k hk => .inr (Nat.le_trans hsz3 hk))⟩, by simp [intOf]; omega⟩
        · rw [if_pos (show r.width ≠ wd0 from hwe)] at hR
          have hweI : ((r.width : Int) != (wd0 : Int)) = true := by simp; omega
          by_cases hbig : 65536 < sm2
          · rw [if_pos hbig] at hR
            have hbigI : (65536 : Int) < (sm2 : Int) := by omega
            have HR := hide hR
            clear hR
            go_quiet (fail)
            have HAc : Hid (Below w3.heap.size w3 (w3.drewN nq)) := hide (below_drewN (Below.refl _ _) nq)
            go_wp2_with (go_at_call 56; refine Calls.mono (HFl.out _ _ _) ?_; rintro e w5 ⟨ev, rfl, he5, hb5⟩; have HE5 := hide he5; have HAc := hide (btrans HAc.out hb5); have x3 : w5.cell? ⟨g, 3, none⟩ = some (.int .u64 r.count) := (HAc.out.cell (p := ⟨g, 3, none⟩) hlg).trans z3; have x4 : g < w5.heap.size := Nat.lt_of_lt_of_le hlg HAc.out.size; clear he5 hb5)
            exact ⟨⟨k + 1, sm2, a3, out2, sg2, 1, v_int (by omega), rfl, by omega, hsmK, hl2, HR, hide (HA3.out.keep HAc.out), HV3, hide (HW3.out.keep HAc.out), hide (HSS.out.keep HAc.out), hide (by rw [hl2]; exact own_keep HO4.out HAc.out), hide ((⟨_, HE5.out⟩ : ErrV w5 ev 1)), hide (HLow.out.trans (HAc.out.mono (by omega))), Nat.le_trans hsz3 HAc.out.size, hide (Fr.trans HFr3.out (T := fun k => w3.heap.size ≤ k) ⟨HAc.out.os, HAc.out.tape, HAc.out.output, HAc.out.size, fun i _ hn => HAc.out.block i (by omega)⟩ fun k hk => .inr (Nat.le_trans hsz3 hk))⟩, by simp [intOf]; omega⟩
          · rw [if_neg hbig] at hR
            have hbigI : ¬ (65536 : Int) < (sm2 : Int) := by omega
            have HR := hide hR
            clear hR
            go_quiet (fail)
            have HAc : Hid (Below w3.heap.size w3 (w3.drewN nq)) := hide (below_drewN (Below.refl _ _) nq)
            go_wp2_with (go_at_call 56; refine Calls.mono (HFl.out _ _ _) ?_; rintro e w5 ⟨ev, rfl, he5, hb5⟩; have HE5 := hide he5; have HAc := hide (btrans HAc.out hb5); have x3 : w5.cell? ⟨g, 3, none⟩ = some (.int .u64 r.count) := (HAc.out.cell (p := ⟨g, 3, none⟩) hlg).trans z3; have x4 : g < w5.heap.size := Nat.lt_of_lt_of_le hlg HAc.out.size; clear he5 hb5)
            exact ⟨⟨k + 1, sm2, a3, out2, sg2, 1, v_int (by omega), rfl, by omega, hsmK, hl2, HR, hide (HA3.out.keep HAc.out), HV3, hide (HW3.out.keep HAc.out), hide (HSS.out.keep HAc.out), hide (by rw [hl2]; exact own_keep HO4.out HAc.out), hide ((⟨_, HE5.out⟩ : ErrV w5 ev 1)), hide (HLow.out.trans (HAc.out.mono (by omega))), Nat.le_trans hsz3 HAc.out.size, hide (Fr.trans HFr3.out (T := fun k => w3.heap.size ≤ k) ⟨HAc.out.os, HAc.out.tape, HAc.out.output, HAc.out.size, fun i _ hn => HAc.out.block i (by omega)⟩ fun k hk => .inr (Nat.le_trans hsz3 hk))⟩, by simp [intOf]; omega⟩
      · have hzb : (z == 0) = false := by simpa using hz
        rw [if_pos hz] at hR
        have HR := hide hR
        clear hR hok
        go_wp2_with (go_at_call 78; refine Calls.mono HFr.out ?_; rintro e w1 ⟨pa, ev, rfl, m1, m2, m3, _⟩; obtain ⟨tg, tdo, rfl, tk⟩ := ErrV.not m3 hz; have M1 := hide m1; have M2 := hide m2; have M3 := hide m3; clear m1 m2 m3 tk)
        refine bodyPost_ret (v := .tuple #[.slice none 0 0, .int .u64 0, .iface 148 (.pointer (some ⟨tg, 0, none⟩))]) (by simp [results, Tryz.results96, go_sem]) rfl ?_
        rw [HR.out]
        exact ⟨_, [], 0, _, rfl, M1.out, HW.out.afr M2.out, HB.out.trans (Fr.toBelowB M2.out (fun k hk => hlo k hk.1) (by omega)), HF.out.trans M2.out, M3.out, fun e => absurd e hz⟩
    · have hke : k = names.length := by omega
      have hR := HR.out
      rw [hke, List.drop_length, sourcesA] at hR
      have HR := hide hR
      have hkI : ¬ (k : Int) < (names.length : Int) := by omega
      clear hR hke
      go_wp2_with fail
      refine bodyPost_ret (v := .tuple #[u7, .int .u64 sm, u9]) (by simp [results, Tryz.results96, go_sem]) rfl ?_
      rw [HR.out]
      exact ⟨_, sg, sm, _, rfl, HA.out, HW.out, HB.out, HF.out, HE.out, fun _ => ⟨rfl, HS.out, HO.out⟩⟩
end Go.Proofs.YtmopegpkoedgbaaGreatDoor
/- A merge's plain steps: trees keep their leaves' places; how many records are left; what stays right. No program in sight but for the walked words. -/
namespace Go.Proofs.YtmopegpkoedgbaaGreatDoor
open Go.RowKit

theorem NodesOK.getD {k : Nat} {l : List Nat} (h : NodesOK k l) (hk : 1 ≤ k) (i : Nat) : l.getD i 0 < k := by
  rw [List.getD_eq_getElem?_getD]
  cases e : l[i]? with
  | none => exact hk
  | some x => exact h.at_ e
theorem replT_nodes {keys : List (List Nat)} {k : Nat} (hk : 1 ≤ k) : ∀ (f n w : Nat) (tree : List Nat), NodesOK k tree → w < k → NodesOK k (replT keys f n w tree).2 ∧ (replT keys f n w tree).1 < k ∧ (replT keys f n w tree).2.length = tree.length
  | 0, _, _, _, h, hw => ⟨h, hw, rfl⟩
  | f + 1, n, w, tree, h, hw => by
    unfold replT
    split
    · exact ⟨h, hw, rfl⟩
    · split
      · obtain ⟨a, b, c⟩ := replT_nodes (keys := keys) hk f (n / 2) (tree.getD n 0) (tree.set n w) (h.set_ n hw) (h.getD hk n)
        exact ⟨a, b, by rw [c, List.length_set]⟩
      · exact replT_nodes hk f (n / 2) w tree h hw
theorem replaceT_nodes {keys : List (List Nat)} {tree key : List Nat} {k : Nat} (hk : 1 ≤ k) (h : NodesOK k tree) : NodesOK k (replaceT keys tree key).2 ∧ (replaceT keys tree key).2.length = tree.length ∧ (replaceT keys tree key).1 = keys.set (tree.getD 0 0) key := by
  unfold replaceT
  dsimp only
  obtain ⟨a, b, c⟩ := replT_nodes (keys := keys.set (tree.getD 0 0) key) hk (keys.length + 1) ((keys.length + tree.getD 0 0) / 2) (tree.getD 0 0) tree h (h.getD hk 0)
  exact ⟨a.set_ 0 b, by rw [List.length_set, c], rfl⟩
theorem growT_nodes {keys : List (List Nat)} {k : Nat} (hk : 1 ≤ k) : ∀ (n : Nat) (win tree : List Nat), NodesOK k win → NodesOK k tree → NodesOK k (growT keys n win tree).1 ∧ NodesOK k (growT keys n win tree).2 ∧ (growT keys n win tree).2.length = tree.length
  | 0, _, _, h, g => ⟨h, g, rfl⟩
  | n + 1, win, tree, h, g => by
    unfold growT
    dsimp only
    split
    · obtain ⟨a, b, c⟩ := growT_nodes (keys := keys) hk n (win.set (n + 1) (win.getD (2 * (n + 1) + 1) 0)) (tree.set (n + 1) (win.getD (2 * (n + 1)) 0)) (h.set_ _ (h.getD hk _)) (g.set_ _ (h.getD hk _))
      exact ⟨a, b, by rw [c, List.length_set]⟩
    · obtain ⟨a, b, c⟩ := growT_nodes (keys := keys) hk n (win.set (n + 1) (win.getD (2 * (n + 1)) 0)) (tree.set (n + 1) (win.getD (2 * (n + 1) + 1) 0)) (h.set_ _ (h.getD hk _)) (g.set_ _ (h.getD hk _))
      exact ⟨a, b, by rw [c, List.length_set]⟩
theorem ofT_nodes {keys : List (List Nat)} (hk : 1 ≤ keys.length) : NodesOK keys.length (ofT keys) ∧ (ofT keys).length = keys.length := by
  unfold ofT
  dsimp only
  obtain ⟨a, b, c⟩ := growT_nodes (keys := keys) hk (keys.length - 1) (List.replicate keys.length 0 ++ List.range keys.length) (List.replicate keys.length 0) (fun x hx => by
    rw [List.mem_append, List.mem_replicate, List.mem_range] at hx
    omega) (fun x hx => by
    rw [List.mem_replicate] at hx
    omega)
  rw [List.length_replicate] at c
  split
  · exact ⟨b.set_ 0 (a.getD hk 1), by rw [List.length_set, c]⟩
  · exact ⟨b, c⟩
/-- How many records a source has left. -/
def remS (s : Src) : Nat := s.rdr.count - s.rdr.at_ / (5 * s.rdr.width)
def fullK (l : List Nat) : Nat := if l = [] then 0 else 1
/-- How many are still to be played. -/
def potK (l : List Src) (keys : List (List Nat)) : Nat := (l.map remS).sum + (keys.map fullK).sum
theorem sum_set {α : Type} (f : α → Nat) : ∀ (l : List α) (i : Nat) (x y : α), l[i]? = some x → ((l.set i y).map f).sum + f x = (l.map f).sum + f y
  | [], i, x, y, h => by simp at h
  | a :: l, 0, x, y, h => by
    cases h
    simp only [List.set_cons_zero, List.map_cons, List.sum_cons]
    omega
  | a :: l, i + 1, x, y, h => by
    have := sum_set f l i x y (by simpa using h)
    simp only [List.set_cons_succ, List.map_cons, List.sum_cons]
    omega
theorem rhold_at (a : Ar) (r : Rdr) : (rhold a r).2.1.at_ = r.at_ := by
  unfold rhold
  dsimp only
  split
  · rfl
  · simp [rclose_two]
theorem rbytes_mono (n : Nat) : ∀ (f : Nat) (o : ByteArray) (a : Ar) (r : Rdr), r.at_ ≤ (rbytes n f o a r).2.1.at_
  | 0, _, _, _ => Nat.le_refl _
  | f + 1, o, a, r => by
    unfold rbytes
    split
    · dsimp only
      split
      · refine Nat.le_trans ?_ (rbytes_mono n f _ _ _)
        dsimp only
        rw [rhold_at]
        exact Nat.le_add_right _ _
      · rw [rhold_at]
        exact Nat.le_refl _
    · exact Nat.le_refl _
theorem rnext_mono (a : Ar) (r : Rdr) : r.at_ ≤ (rnext a r).2.1.at_ := by
  unfold rnext
  split
  · exact rbytes_mono _ _ _ _ _
  · exact Nat.le_refl _
theorem nextS_rem {a : Ar} (h : InvA a) {s : Src} (ok : SrcOK a s) : ((nextS a s).2.2.1 = [] ∧ remS (nextS a s).2.1 ≤ remS s) ∨ ((nextS a s).2.2.1 ≠ [] ∧ remS (nextS a s).2.1 + 1 = remS s) := by
  obtain ⟨n1, n2, n3, n4, n5, n6, n7, n8⟩ := rnext_sp h ok.held
  have hE : eachW s.rdr.width = 5 * s.rdr.width := by unfold eachW; rw [if_neg (by have := ok.w1; omega)]
  have hw1 := ok.w1
  have hmon : s.rdr.at_ ≤ (rnext a s.rdr).2.1.at_ := rnext_mono a s.rdr
  have hre : s.rdr.count - (rnext a s.rdr).2.1.at_ / (5 * s.rdr.width) ≤ s.rdr.count - s.rdr.at_ / (5 * s.rdr.width) := by
    have := Nat.div_le_div_right (c := 5 * s.rdr.width) hmon
    omega
  unfold nextS
  dsimp only
  split
  · rename_i hn
    refine .inl ⟨rfl, ?_⟩
    unfold remS
    dsimp only
    rw [rclose_two]
    dsimp only
    rw [n5, n6]
    exact hre
  · rename_i x hx
    obtain ⟨x1, x2, x3⟩ := n8 x hx
    split
    · refine .inl ⟨rfl, ?_⟩
      unfold remS
      dsimp only
      rw [n5, n6]
      exact hre
    · refine .inr ⟨fun e => ?_, ?_⟩
      · rw [show x = [] from e] at x1
        simp at x1
        omega
      · unfold remS
        dsimp only
        rw [n5, n6, x3, hE]
        unfold rmore at x2
        rw [Bool.and_eq_true, decide_eq_true_eq, decide_eq_true_eq, hE] at x2
        have h1 : (s.rdr.at_ + 5 * s.rdr.width) / (5 * s.rdr.width) = s.rdr.at_ / (5 * s.rdr.width) + 1 := Nat.add_div_right _ (by omega)
        have h2 : s.rdr.at_ / (5 * s.rdr.width) < s.rdr.count := Nat.div_lt_of_lt_mul x2.2
        omega
/-- All sources are right. -/
def AllOK (a : Ar) (l : List Src) : Prop := ∀ x ∈ l, SrcOK a x
theorem AllOK.kp {a b : Ar} {l : List Src} (h : AllOK a l) (k : Kp a b) : AllOK b l := fun x hx => (h x hx).kp k
theorem AllOK.set_ {a : Ar} {l : List Src} (h : AllOK a l) (i : Nat) {x : Src} (hx : SrcOK a x) : AllOK a (l.set i x) := fun y hy => by
  rcases List.mem_or_eq_of_mem_set hy with h1 | rfl
  · exact h y h1
  · exact hx
theorem AllOK.app {a : Ar} {l m : List Src} (h : AllOK a l) (k : AllOK a m) : AllOK a (l ++ m) := fun x hx => (List.mem_append.1 hx).elim (h x) (k x)
theorem fromW_src {a : Ar} {name : ByteArray} (h : (fromW a name).2.2 = 0) : SrcOK (fromW a name).1 ⟨(fromW a name).2.1, []⟩ ∧ remS ⟨(fromW a name).2.1, []⟩ = (fromW a name).2.1.count := by
  obtain ⟨h1, h2, h3, h4, h5⟩ := fromW_ok h
  have hy : (fromW a name).2.1.why = 0 := rfl
  refine ⟨⟨HeldW.none h5, h1, h2, h3, by dsimp only; omega, by dsimp only; rw [hy]; decide, .inl rfl⟩, ?_⟩
  unfold remS
  dsimp only
  rw [h4, Nat.zero_div, Nat.sub_zero]
theorem fromW_kp (a : Ar) (name : ByteArray) : Kp a (fromW a name).1 := ⟨rfl, fun _ h => h⟩
/-- The sources that come of names: right ones, as many, with as many records. -/
theorem sourcesA_sp : ∀ (names : List ByteArray) {a : Ar} {out : List Src} {sum : Nat} {bad : Int}, InvA a → AllOK a out → (out.map remS).sum = sum → (sourcesA names a out sum bad).2.2.2 = 0 →
    InvA (sourcesA names a out sum bad).1 ∧ AllOK (sourcesA names a out sum bad).1 (sourcesA names a out sum bad).2.1 ∧ ((sourcesA names a out sum bad).2.1.map remS).sum = (sourcesA names a out sum bad).2.2.1 ∧ (sourcesA names a out sum bad).2.1.length = out.length + names.length
  | [], a, out, sum, bad, hv, ho, hs, _ => ⟨hv, ho, hs, by simp [sourcesA]⟩
  | n :: r, a, out, sum, bad, hv, ho, hs, h => by
    rw [sourcesA] at h ⊢
    dsimp only at h ⊢
    by_cases hz : (fromW a n).2.2 = 0
    · rw [if_neg (fun e => e hz)] at h ⊢
      obtain ⟨k1, k2⟩ := fromW_src hz
      obtain ⟨i1, i2, i3, i4⟩ := sourcesA_sp r (fromW_inv hv n) ((ho.kp (fromW_kp a n)).app (fun x hx => by rw [List.mem_singleton] at hx; subst hx; exact k1)) (by rw [List.map_append, List.sum_append, hs]; simp [k2]) h
      exact ⟨i1, i2, i3, by rw [i4]; simp; omega⟩
    · rw [if_pos hz] at h
      exact absurd h hz
theorem sourcesA_inv : ∀ (names : List ByteArray) {a : Ar} {out : List Src} {sum : Nat} {bad : Int}, InvA a → InvA (sourcesA names a out sum bad).1
  | [], a, out, sum, bad, hv => hv
  | n :: r, a, out, sum, bad, hv => by
    rw [sourcesA]
    dsimp only
    split
    · exact fromW_inv hv n
    · exact sourcesA_inv r (fromW_inv hv n)
theorem wpin_not12 (a : Ar) (x : Wtr) : (wpin a x).2.2 ≠ 12 := by
  unfold wpin
  split
  · exact (by decide : (0 : Int) ≠ 12)
  · split
    · exact pin_not12 _ _ _
    · exact (by decide : (0 : Int) ≠ 12)
theorem wraw_not12 : ∀ (f : Nat) (b : ByteArray) (a : Ar) (x : Wtr), (wraw f b a x).2.2 ≠ 12
  | 0, _, _, _ => (by decide : (0 : Int) ≠ 12)
  | f + 1, b, a, x => by
    rw [wraw_step]
    split
    · exact (by decide : (0 : Int) ≠ 12)
    · split
      · exact wpin_not12 a x
      · exact wraw_not12 f _ _ _
theorem wput_not12 (a : Ar) (x : Wtr) (l : List Nat) : (wput a x l).2.2 ≠ 12 := wraw_not12 _ _ _ _
end Go.Proofs.YtmopegpkoedgbaaGreatDoor
/- Walk: the closure of merge.Into that puts a record. -/
namespace Go.Proofs.YtmopegpkoedgbaaGreatDoor
open Go.RowKit Go.Sort

set_option maxRecDepth 100000 in
theorem intoPut_any (B : Fld) (p gw bx c : Nat) (A : Option Addr) (l : List Nat) (a : Ar) (x : Wtr) (w : World) (ha : ArAt w B p a) (hv : InvA a) (hx : WrAt w p gw x) (hbx : Bk w bx 91 #[.pointer (some ⟨gw, 0, none⟩)]) (hh : HeldX a x) (hat : x.at_ ≤ 100000000) (hct : x.count ≤ 1000000000) (hl : l.length ≤ 1000) (ho : w.ownsRow 0 27 1 (.slice A l.length c) l.length (vu64 l)) :
    Calls Tryz.prog 98 #[.slice A l.length c, .pointer (some ⟨bx, 0, none⟩)] w fun e w' => ∃ ev, e = .returned ev ∧ ArAt w' B p (wput a x l).1 ∧ WrAt w' p gw (wput a x l).2.1 ∧ GFr gw B w w' ∧ ErrV w' ev (wput a x l).2.2 := by
  have hp := wrput_any B p gw 0 c A l a x w ha hv hx hh hat hct hl ho
  have hfl := fun (d : ByteArray) (z : Int) W => fail_any d z W
  have c0 : w.cell? ⟨bx, 0, none⟩ = some (.pointer (some ⟨gw, 0, none⟩)) := hbx.cell 0
  have hlt := hbx.lt
  obtain ⟨P, hP⟩ : ∃ P, P = wput a x l := ⟨_, rfl⟩
  rw [← hP] at hp ⊢
  obtain ⟨a2, x2, z⟩ := P
  dsimp only at hp ⊢
  have HP := hide hp
  have HFl := hide hfl
  clear hp hfl hP ha hv hx hbx hh ho
  go_enter Tryz.func98, Tryz.ntmps98
  go_wp2_with (first
    | (go_at_call 56; refine Calls.mono (HFl.out _ _ _) ?_; rintro e w3 ⟨ev, rfl, he3, hb3⟩; have HE3 := hide he3; have HB3 := hide hb3; clear he3 hb3)
    | (go_at_call 94; refine Calls.mono HP.out ?_; rintro e w2 ⟨rfl, q1, q2, q3⟩; have Q1 := hide q1; have Q2 := hide q2; have Q3 := hide q3; clear q1 q2 q3))
  go_ret
  exact ⟨_, rfl, Q1.out.keep HB3.out, Bk.keep Q2.out HB3.out, Q3.out.trans (GFr.below HB3.out), ⟨_, HE3.out⟩⟩
end Go.Proofs.YtmopegpkoedgbaaGreatDoor
/- What stands beside a merge's walk, and how it stays. -/
namespace Go.Proofs.YtmopegpkoedgbaaGreatDoor
open Go.RowKit Go.Sort

/-- Blocks of some types. -/
def STy (S : Nat → Prop) (w : World) (T : TypeId → Prop) : Prop := ∀ k, S k → ∃ cs t z, w.heap[k]? = some (.cells cs t z) ∧ T t
section
variable {S : Nat → Prop} {T : TypeId → Prop} {B : Fld} {w w' : World}
theorem Fr.ty (h : Fr S w w') (hS : STy S w T) : AFr T (fl 0) w w' := Fr.mono h fun k hk => by
  obtain ⟨cs, t, z, h1, h2⟩ := hS k hk
  exact ⟨Nat.zero_le _, cs, t, z, h1, h2⟩
theorem XFr.ty (h : XFr S B w w') (hS : STy S w T) : AFr (fun t => T t ∨ ATy t) (fl 0) w w' := Fr.mono h fun k hk => by
  rcases hk with hk | ⟨_, cs, t, z, h1, h2⟩
  · obtain ⟨cs, t, z, h1, h2⟩ := hS k hk
    exact ⟨Nat.zero_le _, cs, t, z, h1, .inl h2⟩
  · exact ⟨Nat.zero_le _, cs, t, z, h1, .inr h2⟩
theorem WkAt.xfr {h p : Nat} {was : Dsk} {X : WkX} (hw : WkAt w B h p was X) (hf : XFr S B w w') (hS : STy S w T) (t1 : ¬ T 120) (t2 : ¬ T 77) (t3 : ¬ T 79) : WkAt w' B h p was X := by
  obtain ⟨E0, W0, h1, h2, h3, h4, h5⟩ := hw
  have key : ∀ {v : Value} {n e size : Nat} {ty : TypeId} {xs : List Value}, w.ownsRow e ty size v n xs → ¬ T ty → (∀ k, v.ownBlock = some k → ¬ B.ok k) → w'.ownsRow e ty size v n xs := fun {v n e size ty xs} ho ht hB => own_fr ho hf fun k hk hs => by
    rcases hs with hs | hs
    · rcases ho.2 with ⟨rfl, _⟩ | ⟨g', cap, cur, rfl, hb, hh, _⟩
      · simp [Value.ownBlock] at hk
      · have : k = g' := by simpa [Value.ownBlock] using hk.symm
        subst this
        obtain ⟨cs, t, z, e1, e2⟩ := hS k hs
        rw [hh] at e1
        simp only [Option.some.injEq, Obj.cells.injEq] at e1
        exact ht (by rw [e1.2.1]; exact e2)
    · exact hB k hk hs.1
  refine ⟨E0, W0, Bk.xfr h1 hf work_not (fun hs => ?_), key h2 t2 h4, key h3 t3 h5, h4, h5⟩
  obtain ⟨cs, t, z, e1, e2⟩ := hS h hs
  exact t1 (by rw [← bk_ty h1 rfl e1]; exact e2)
end
theorem TreeAt.other {T : TypeId → Prop} {B' : Fld} {w w' : World} {t kb tb : Nat} {vs : List Value} {keys : List (List Nat)} {tree : List Nat} (h : TreeAt w t kb tb vs keys tree) (hf : AFr T B' w w') (t1 : ¬ T 211) (t2 : ¬ T 63) (t3 : ¬ T 3) (t4 : ¬ T 27) : TreeAt w' t kb tb vs keys tree :=
  h.fr (fun g ty cs hk ht => hk.afr hf (by
    rcases ht with rfl | rfl | rfl
    · exact t1
    · exact t2
    · exact t3)) (fun _ _ _ ho => own_afr ho hf t4)
/-- What stands beside a merge that goes on: the arena, the sources, the writer, the operation. -/
structure RunAt (W : World) (B : Fld) (h p lo : Nat) (o : Addr) (gw bx : Nat) (sg : List (Nat × Nat)) (lv : Value) (was : Dsk) (X : WkX) (a : Ar) (l : List Src) (x : Wtr) : Prop where
  ar : ArAt W B p a
  inv : InvA a
  srcs : SrcsAt W p lo sg l
  ok : AllOK a l
  wr : WrAt W p gw x
  held : HeldX a x
  at_ : x.at_ ≤ 40 * x.count
  cnt : x.count ≤ 1000000
  wid : x.width ≤ 8
  ptr : Bk W bx 91 #[.pointer (some ⟨gw, 0, none⟩)]
  row : W.ownsRow 0 156 1 lv sg.length (ptrS sg)
  ord : OrdAt W o
  wk : WkAt W B h p was X
/-- Where it may write. -/
structure RunLo (B : Fld) (lo gw : Nat) : Prop where
  fld : ∀ k, B.ok k → lo ≤ k
  ord : 0 < lo
  wr : lo ≤ gw
def nty (t : TypeId) : Prop := t = 155 ∨ t = 127
def ktyT (t : TypeId) : Prop := t = 63 ∨ t = 3
/-- What a merge's run may write. -/
def RTy (t : TypeId) : Prop := ATy t ∨ nty t ∨ t = 201 ∨ ktyT t
theorem AFr.any {T T' : TypeId → Prop} {B : Fld} {w w' : World} (h : AFr T B w w') (hT : ∀ t, T t → T' t) : AFr T' (fl 0) w w' := Fr.mono h fun _ ⟨_, cs, t, z, h2, h3⟩ => ⟨Nat.zero_le _, cs, t, z, h2, hT t h3⟩
/-- What a run leaves: blocks below some place, blocks of other types. -/
structure RB (lo : Nat) (w w' : World) : Prop where
  b : Below lo w w'
  f : AFr RTy (fl 0) w w'
section
variable {lo : Nat} {a w w' : World}
theorem RB.trans (h : RB lo a w) (k : RB lo w w') : RB lo a w' := ⟨h.b.trans k.b, h.f.trans k.f⟩
theorem RB.size (h : RB lo a w) : a.heap.size ≤ w.heap.size := h.b.size
theorem RB.drewN (h : RB lo a w) (n : Nat) : RB lo a (w.drewN n) := ⟨below_drewN h.b n, AFr.drewN h.f n⟩
theorem RB.below (h : Below w.heap.size w w') (hl : lo ≤ w.heap.size) : RB lo w w' := ⟨h.mono hl, AFr.below h⟩
end
section
variable {W W' : World} {B : Fld} {h p lo : Nat} {o : Addr} {gw bx : Nat} {sg : List (Nat × Nat)} {lv : Value} {was : Dsk} {X : WkX} {a : Ar} {l : List Src} {x : Wtr}
theorem RunAt.keep (r : RunAt W B h p lo o gw bx sg lv was X a l x) (hb : Below W.heap.size W W') : RunAt W' B h p lo o gw bx sg lv was X a l x :=
  ⟨r.ar.keep hb, r.inv, r.srcs.keep hb, r.ok, Bk.keep r.wr hb, r.held, r.at_, r.cnt, r.wid, r.ptr.keep hb, own_keep r.row hb, (hb.cell (p := ⟨0, 0, none⟩) (World.block_lt_of_cell? W _ r.ord)).trans r.ord, r.wk.keep hb⟩
theorem RunAt.drewN (r : RunAt W B h p lo o gw bx sg lv was X a l x) (n : Nat) : RunAt (W.drewN n) B h p lo o gw bx sg lv was X a l x := r.keep (below_drewN (Below.refl _ _) n)
theorem SrcAt.sty {p s g : Nat} {y : Src} (k : SrcAt W p s g y) : STy (fun k => k = s ∨ k = g) W nty := fun k hk => by
  obtain ⟨lv, k1, k2, _⟩ := ‹SrcAt W p s g y›
  rcases hk with rfl | rfl
  · exact ⟨_, _, _, k1, .inl rfl⟩
  · exact ⟨_, _, _, k2, .inr rfl⟩
/-- A source's next record was read. -/
theorem RunAt.next (r : RunAt W B h p lo o gw bx sg lv was X a l x) (rl : RunLo B lo gw) (hl : lo ≤ W.heap.size) {i : Nat} {q : Nat × Nat} {s : Src} (hq : sg[i]? = some q) (hs : l[i]? = some s) (n1 : ArAt W' B p (nextS a s).1) (n2 : SrcAt W' p q.1 q.2 (nextS a s).2.1) (n3 : XFr (fun k => k = q.1 ∨ k = q.2) B W W') : RunAt W' B h p lo o gw bx sg lv was X (nextS a s).1 (l.set i (nextS a s).2.1) x ∧ RB lo W W' := by
  have hsa := r.srcs.at_ i q s hq hs
  have hty := hsa.sty
  have hf := n3.ty hty
  have hlo := r.srcs.low q (List.mem_of_getElem? hq)
  have hbl := n3.low (fun k hk => by rcases hk with e | e <;> omega) rl.fld hl
  obtain ⟨i1, i2, i3, _⟩ := nextS_sp r.inv (r.ok s (List.mem_of_getElem? hs))
  refine ⟨⟨n1, i1, ?_, (r.ok.kp i2).set_ i i3, r.wr.other hf (by unfold nty ATy; decide), r.held.kp i2, r.at_, r.cnt, r.wid, r.ptr.afr hf (by unfold nty ATy; decide), own_afr r.row hf (by unfold nty ATy; decide), r.ord.low hbl rl.ord, r.wk.xfr n3 hty (by unfold nty; decide) (by unfold nty; decide) (by unfold nty; decide)⟩, hbl, hf.any fun t ht => ht.elim (fun e => .inr (.inl e)) .inl⟩
  refine ⟨by simp [r.srcs.len], fun j q' y hq' hy => ?_, r.srcs.low, r.srcs.nd⟩
  rw [List.getElem?_set] at hy
  by_cases e : i = j
  · subst e
    rw [if_pos rfl] at hy
    rw [hq] at hq'
    cases hq'
    split at hy
    · cases hy
      exact n2
    · cases hy
  · rw [if_neg e] at hy
    obtain ⟨d1, d2⟩ := r.srcs.nd i j q q' hq hq' e
    have hk := r.srcs.at_ j q' y hq' hy
    obtain ⟨lv', k1, k2, k3⟩ := hsa
    obtain ⟨lw', m1, m2, m3⟩ := hk
    exact ⟨lw', Bk.xfr m1 n3 src_not (fun hs => hs.elim (fun e => d1 e.symm) fun e => m1.ne_ k2 (by decide) e), Bk.xfr m2 n3 rd_not (fun hs => hs.elim (fun e => Bk.ne_ m2 k1 (by decide) e) fun e => d2 e.symm), m3.fr fun _ _ _ ho => own_afr ho hf (by unfold nty ATy; decide)⟩
/-- A record was put. -/
theorem RunAt.put (r : RunAt W B h p lo o gw bx sg lv was X a l x) (rl : RunLo B lo gw) (hl : lo ≤ W.heap.size) (hc : x.count < 1000000) {k : List Nat} (hk : k.length ≤ 8) (n1 : ArAt W' B p (wput a x k).1) (n2 : WrAt W' p gw (wput a x k).2.1) (n3 : GFr gw B W W') : RunAt W' B h p lo o gw bx sg lv was X (wput a x k).1 l (wput a x k).2.1 ∧ RB lo W W' := by
  have hx := XFr.of (S := fun k => k = gw) n3 rfl
  have hty : STy (fun k => k = gw) W (fun t => t = 201) := fun k hk => by
    obtain rfl : k = gw := hk
    exact ⟨_, _, _, r.wr, rfl⟩
  have hf := hx.ty hty
  have hbl := hx.low (fun k hk => by rw [hk]; exact rl.wr) rl.fld hl
  obtain ⟨i1, i2, i3, i4, i5, i6, i7⟩ := wput_sp r.inv r.held k
  have hat := r.at_
  exact ⟨⟨n1, i1, r.srcs.other hf (by unfold ATy; decide) (by unfold ATy; decide) (by unfold ATy; decide), r.ok.kp i2, n2, i3, by rw [i6]; omega, by rw [i6]; omega, by rw [i5]; exact r.wid, r.ptr.afr hf (by unfold ATy; decide), own_afr r.row hf (by unfold ATy; decide), r.ord.low hbl rl.ord, r.wk.xfr hx hty (by decide) (by decide) (by decide)⟩, hbl, hf.any fun t ht => ht.elim (fun e => .inr (.inr (.inl e))) .inl⟩
/-- A tree's rows were written. -/
theorem RunAt.other (r : RunAt W B h p lo o gw bx sg lv was X a l x) {B' : Fld} (hf : AFr ktyT B' W W') (hb : Below lo W W') (rl : RunLo B lo gw) : RunAt W' B h p lo o gw bx sg lv was X a l x :=
  ⟨r.ar.other hf (fun t ht e => by unfold ktyT at e; rcases e with rfl | rfl <;> revert ht <;> unfold ATy <;> decide), r.inv, r.srcs.other hf (by unfold ktyT; decide) (by unfold ktyT; decide) (by unfold ktyT; decide), r.ok, r.wr.other hf (by unfold ktyT; decide), r.held, r.at_, r.cnt, r.wid, r.ptr.afr hf (by unfold ktyT; decide), own_afr r.row hf (by unfold ktyT; decide), r.ord.low hb rl.ord, r.wk.other hf (by unfold ktyT; decide) (by unfold ktyT; decide) (by unfold ktyT; decide)⟩
end
end Go.Proofs.YtmopegpkoedgbaaGreatDoor
/- Walk: merge.run. -/
namespace Go.Proofs.YtmopegpkoedgbaaGreatDoor
open Go.RowKit Go.Sort

/-- What run makes of its sources, with f rounds at most. -/
def runA (f : Nat) (l : List Src) (a : Ar) (x : Wtr) : Ar × List Src × Wtr × Int :=
  let k := keysA l a [] []
  if k.2.2.2 ≠ 0 then (k.1, k.2.1, x, k.2.2.2) else playA f k.1 k.2.1 x k.2.2.1 (ofT k.2.2.1)
theorem info_slu : (Tryz.prog.info? 63).map (fun i => (i.zero, i.size, i.bytes)) = some (some (.slice none 0 0), 1, 24) := by kernel_rfl
def nilsV (n : Nat) : List Value := List.replicate n (.slice none 0 0)
theorem made_slu (n : Nat) : madeCells #[Value.slice none 0 0] n = (nilsV n).toArray := by
  apply Array.ext'
  apply List.ext_getElem?
  intro i
  simp [madeCells, nilsV]
  rcases Nat.lt_or_ge i n with h | h
  · simp [h, Nat.mod_one]
  · simp [h]
theorem run_slus (n : Nat) (hn : n ≤ 1000000) (W : World) : (Instr.makeSlice 35 (.int .i64 n) (.int .i64 n)).run Tryz.prog W = .ok (.slice (some ⟨W.heap.size, 0, none⟩) n n) (W.alloc (.cells (nilsV n).toArray 63)) := by
  obtain ⟨i0, hi, hz0, hz1, hz2⟩ := info_parts info_slu
  have := run_make (P := Tryz.prog) W 35 63 i0 _ Tryz.underlying35 hi hz0 .i64 .i64 n n (by omega) (by omega) (by rw [hz2]; omega) (by omega)
  rw [hz1, Int.toNat_natCast, Nat.mul_one] at this
  rw [← made_slu]
  exact this
theorem KeysR.nils (w : World) (n : Nat) : KeysR w (nilsV n) (List.replicate n []) := ⟨by simp [nilsV], fun i l h => by
  rw [List.getElem?_replicate] at h
  split at h
  · cases h
    rename_i hlt
    exact ⟨by decide, none, 0, by unfold nilsV; rw [List.getElem?_replicate, if_pos hlt]; rfl, rfl, .inl ⟨rfl, rfl⟩⟩
  · cases h⟩
theorem ErrO.not {w : World} {o : Addr} {v : Value} {z : Int} (h : ErrO w o v z) (hz : z ≠ 0) : ∃ t u, v = .iface t u := by
  rcases h with ⟨_, h⟩ | ⟨_, h⟩
  · exact ⟨_, _, h⟩
  · obtain ⟨g, d, h1, _⟩ := h.not hz
    exact ⟨_, _, h1⟩
theorem drop_cons_s {α : Type} {a : List α} {k : Nat} {x : α} (h : a[k]? = some x) : a.drop k = x :: a.drop (k + 1) := by
  obtain ⟨hk, rfl⟩ := List.getElem?_eq_some_iff.1 h
  exact List.drop_eq_getElem_cons hk
theorem pot_next {l : List Src} {ks : List (List Nat)} {i : Nat} {s y : Src} {key : List Nat} (hs : l[i]? = some s) (h : (key = [] ∧ remS y ≤ remS s) ∨ (key ≠ [] ∧ remS y + 1 = remS s)) : potK (l.set i y) (ks ++ [key]) ≤ potK l ks := by
  unfold potK
  have := sum_set remS l i s y hs
  rw [List.map_append, List.sum_append]
  simp only [List.map_cons, List.map_nil, List.sum_cons, List.sum_nil]
  rcases h with ⟨rfl, h⟩ | ⟨hk, h⟩
  · have : fullK [] = 0 := rfl
    omega
  · have : fullK key = 1 := if_neg hk
    omega
theorem pot_play {l : List Src} {keys : List (List Nat)} {i j : Nat} {s y : Src} {key k0 : List Nat} (hs : l[i]? = some s) (hk : keys[j]? = some k0) (h0 : k0 ≠ []) (h : (key = [] ∧ remS y ≤ remS s) ∨ (key ≠ [] ∧ remS y + 1 = remS s)) : potK (l.set i y) (keys.set j key) + 1 ≤ potK l keys := by
  unfold potK
  have h1 := sum_set remS l i s y hs
  have h2 := sum_set fullK keys j k0 key hk
  have h3 : fullK k0 = 1 := if_neg h0
  rcases h with ⟨rfl, h⟩ | ⟨hk, h⟩
  · have : fullK [] = 0 := rfl
    omega
  · have : fullK key = 1 := if_neg hk
    omega
theorem pot_pos {l : List Src} {keys : List (List Nat)} {j : Nat} {k0 : List Nat} (hk : keys[j]? = some k0) (h0 : k0 ≠ []) : 1 ≤ potK l keys := by
  unfold potK
  have h2 := sum_set fullK keys j k0 [] hk
  have h3 : fullK k0 = 1 := if_neg h0
  have : fullK [] = 0 := rfl
  omega
/-- Records are short. -/
def Short (l : List (List Nat)) : Prop := ∀ k ∈ l, k.length ≤ 8
theorem Short.set_ {l : List (List Nat)} (h : Short l) (i : Nat) {k : List Nat} (hk : k.length ≤ 8) : Short (l.set i k) := fun y hy => by
  rcases List.mem_or_eq_of_mem_set hy with h1 | rfl
  · exact h y h1
  · exact hk
theorem Short.snoc {l : List (List Nat)} (h : Short l) {k : List Nat} (hk : k.length ≤ 8) : Short (l ++ [k]) := fun y hy => by
  rcases List.mem_append.1 hy with h1 | h1
  · exact h y h1
  · rw [List.mem_singleton] at h1; rw [h1]; exact hk
theorem set_mid {α : Type} {d r : List α} {x y : α} {i : Nat} (h : d.length = i) : (d ++ x :: r).set i y = d ++ y :: r := by
  subst h
  rw [List.set_append_right _ _ (Nat.le_refl _), Nat.sub_self, List.set_cons_zero]
set_option maxRecDepth 100000 in
set_option maxHeartbeats 8000000 in
theorem run_any (B : Fld) (h p lo : Nat) (o : Addr) (gw bx F : Nat) (sg : List (Nat × Nat)) (lv : Value) (was : Dsk) {X : WkX} (a : Ar) (l : List Src) (x : Wtr) (w : World) (r : RunAt w B h p lo o gw bx sg lv was X a l x) (rl : RunLo B lo gw) (hl : lo ≤ w.heap.size) (hk1 : 1 ≤ sg.length) (hk2 : sg.length ≤ 1000000) (hF : (l.map remS).sum < F) (hc : x.count + F ≤ 1000000) :
    Calls Tryz.prog 97 #[lv, .func (.func 98) #[] #[.pointer (some ⟨bx, 0, none⟩)]] w fun e w' => ∃ ev, e = .returned ev ∧ RunAt w' B h p lo o gw bx sg lv was X (runA F l a x).1 (runA F l a x).2.1 (runA F l a x).2.2.1 ∧ RB lo w w' ∧ ErrO w' o ev (runA F l a x).2.2.2 := by
  obtain ⟨R, hR⟩ : ∃ R, R = runA F l a x := ⟨_, rfl⟩
  rw [← hR]
  unfold runA at hR
  dsimp only at hR
  obtain ⟨K, hK⟩ : ∃ K, K = keysA l a [] [] := ⟨_, rfl⟩
  rw [← hK] at hR
  obtain ⟨A0, c0, rfl⟩ := own_formk r.row
  obtain ⟨k, hkk⟩ : ∃ k, k = sg.length := ⟨_, rfl⟩
  have hlk : l.length = k := by rw [hkk]; exact r.srcs.len.symm
  rw [← hkk] at hk1 hk2
  have hmk := fun W => run_slus k hk2 W
  obtain ⟨W1, hW1⟩ : ∃ W1, W1 = w.alloc (.cells (nilsV k).toArray 63) := ⟨_, rfl⟩
  have hb1 : Below w.heap.size w W1 := by rw [hW1]; exact ba1 _ _
  have hkb : Bk W1 w.heap.size 63 (nilsV k).toArray := by rw [hW1]; exact Bk.new _ _ _
  have hr1 := r.keep hb1
  have hkr : KeysR W1 (nilsV k) ([] ++ List.replicate (k - 0) []) := KeysR.nils W1 k
  have HK := hide (show K = keysA (l.drop 0) a [] [] from hK)
  have HR := hide hR
  have HW1 := hide hW1
  have HB1 := hide (RB.below hb1 hl)
  have HKb := hide hkb
  have HR1 := hide (show RunAt W1 B h p lo o gw bx sg (.slice A0 sg.length c0) was X a ([] ++ l.drop 0) x from hr1)
  have HKr := hide hkr
  have HKK := hide hkk
  have HLK := hide hlk
  have HP := hide (show potK ([] ++ l.drop 0) [] < F by unfold potK; simpa using hF)
  clear hR hK hW1 hb1 hkb hr1 hkr r hF
  rw [← hkk] at HR1 ⊢
  clear hkk hlk
  go_enter Tryz.func97, Tryz.ntmps97
  go_upto_region 3 with (fail)
  rw [← HW1.out]
  clear HW1 hmk
  have hbz : w.heap.size < w.heap.size + 1 := by omega
  go_loopw [21] (fun iv wr => ∃ (i : Nat) (a2 : Ar) (done : List Src) (ks : List (List Nat)) (vs : List Value), iv = .int .i64 i ∧ i ≤ k ∧ Hid (done.length = i) ∧ Hid (ks.length = i) ∧ Hid (K = keysA (l.drop i) a2 done ks) ∧ Hid (RunAt wr B h p lo o gw bx sg (.slice A0 k c0) was X a2 (done ++ l.drop i) x) ∧ Hid (Bk wr w.heap.size 63 vs.toArray) ∧ Hid (KeysR wr vs (ks ++ List.replicate (k - i) [])) ∧ Hid (potK (done ++ l.drop i) ks < F) ∧ Hid (RB lo w wr) ∧ Hid (Short ks)) (fun iv _ => k - (intOf iv).toNat)
  case atStart => exact ⟨0, a, [], [], nilsV k, rfl, Nat.zero_le _, rfl, rfl, HK, HR1, HKb, HKr, HP, HB1, hide (fun k hk => by cases hk)⟩
  case round =>
    clear HK HR1 HKb HKr HP HB1
    obtain ⟨i, a2, done, ks, vs, rfl, hik, HD, HL, HK, HRn, HKb, HKr, HP, HB, HSh⟩ := hrel
    have hlw := HKb.out.lt
    by_cases hlt : i < k
    · obtain ⟨s, hs⟩ : ∃ s, l[i]? = some s := ⟨_, List.getElem?_eq_getElem (by rw [HLK.out]; exact hlt)⟩
      obtain ⟨q, hq⟩ : ∃ q, sg[i]? = some q := ⟨_, List.getElem?_eq_getElem (by rw [← HKK.out]; exact hlt)⟩
      have hd := drop_cons_s hs
      have hK := HK.out
      rw [hd, keysA] at hK
      try dsimp only at hK
      have hR := HRn.out
      rw [hd] at hR
      have hP := HP.out
      rw [hd] at hP
      have hmid : (done ++ s :: l.drop (i + 1))[i]? = some s := by rw [List.getElem?_append_right (by rw [HD.out]; exact Nat.le_refl _), HD.out, Nat.sub_self]; rfl
      have hrow := hR.row
      rw [← HKK.out] at hrow
      obtain ⟨b0, rfl, hb0, _, cp⟩ := own_ptr hrow hq
      have hsa := hR.srcs.at_ i q s hq hmid
      have hlq := hR.srcs.low q (List.mem_of_getElem? hq)
      have hsok := hR.ok s (List.mem_of_getElem? hmid)
      have hnx := snext_any B p q.1 q.2 lo o a2 s wr hR.ord rl.fld (by have := HB.out.size; omega) rl.ord hlq.1 hlq.2 hR.ar hR.inv hsa hsok
      have hnr := nextS_rem hR.inv hsok
      obtain ⟨_, _, _, hw5, _, hns⟩ := nextS_sp hR.inv hsok
      have hrn := fun W' (n1 : ArAt W' B p (nextS a2 s).1) n2 n3 => hR.next (W' := W') rl (by have := HB.out.size; omega) hq hmid n1 n2 n3
      have hsty := hsa.sty
      rw [set_mid HD.out] at hrn
      have hw8 := hsok.w8
      have hpn := pot_next (ks := ks) hmid hnr
      rw [set_mid HD.out] at hpn
      obtain ⟨N, hN⟩ : ∃ N, N = nextS a2 s := ⟨_, rfl⟩
      rw [← hN] at hK hnx hns hrn hpn
      obtain ⟨a3, s3, key, z⟩ := N
      dsimp only at hK hnx hns hrn hpn
      have hk8 : key.length ≤ 8 := by
        rcases hns with h | h
        · rw [h]; decide
        · omega
      have HNx := hide hnx
      have HRx := hide hrn
      have HSty := hide hsty
      have hPn : potK (done ++ s3 :: l.drop (i + 1)) (ks ++ [key]) < F := Nat.lt_of_le_of_lt hpn hP
      have HPn := hide hPn
      have hikI : (i : Int) < (k : Int) := by omega
      have hrep : List.replicate (k - i) ([] : List Nat) = [] :: List.replicate (k - (i + 1)) [] := by rw [show k - i = (k - (i + 1)) + 1 by omega, List.replicate_succ]
      have hkr0 := HKr.out
      rw [hrep] at hkr0
      obtain ⟨_, va, vc, hvi, _⟩ := hkr0.row i [] (by rw [List.getElem?_append_right (by rw [HL.out]; exact Nat.le_refl _), HL.out, Nat.sub_self]; rfl)
      have HVi := hide hvi
      have HKr0 := hide hkr0
      clear hrep hvi hkr0 HKr
      clear hN hnx hrn hsty hR hP hmid hsa hlq hsok hnr hns hd hs hrow hpn hPn HK
      by_cases hz : z = 0
      · subst hz
        rw [if_neg (by decide)] at hK
        have HK := hide hK
        clear hK
        go_wp2_with (go_at_call 100; refine Calls.mono HNx.out ?_; rintro e w1 ⟨xv, ev, rfl, n1, n2, n3, n4, n5⟩; obtain rfl := n5.zero; obtain ⟨Ax, cx, rfl, hox⟩ := n4.own; obtain ⟨r1, r2⟩ := HRx.out _ n1 n2 n3; have hf1 := n3.ty HSty.out; have kb1 := HKb.out.afr hf1 (by unfold nty ATy; decide); have kr1 := HKr0.out.fr (fun _ _ _ ho => own_afr ho hf1 (by unfold nty ATy; decide)); have kf1 := kb1.free i; have kc1 := kb1.cell i; rw [List.getElem?_toArray, HVi.out] at kc1; have kl1 := kb1.lt; have R1 := hide r1; have R2 := hide r2; have KB1 := hide kb1; have KR1 := hide kr1; have HOx := hide hox; clear n1 n2 n3 n4 n5 hox r1 r2 hf1 kb1 kr1)
        have hfs : AFr ktyT (fl 0) w1 (w1.setCell ⟨w.heap.size, i, none⟩ (.slice Ax key.length cx)) := (AFr.refl _ _ _).set_ KB1.out (Nat.zero_le _) (.inl rfl) i _
        have hbs : Below lo w1 (w1.setCell ⟨w.heap.size, i, none⟩ (.slice Ax key.length cx)) := (Below.refl lo w1).setCell (p := ⟨w.heap.size, i, none⟩) hl _
        have hbk := KB1.out.set_ i (.slice Ax key.length cx)
        rw [List.setIfInBounds_toArray] at hbk
        have hos := fun v n xs (ho : w1.ownsRow 0 27 1 v n xs) => own_set ho (p := ⟨w.heap.size, i, none⟩) (fun e => own_ne ho KB1.out (by decide) e.symm) (.slice Ax key.length cx)
        have hks := (KR1.out.fr hos).set_ i (show key.length ≤ 1000000 by omega) (hos _ _ _ HOx.out)
        rw [set_mid HL.out] at hks
        exact ⟨⟨i + 1, a3, done ++ [s3], ks ++ [key], vs.set i (.slice Ax key.length cx), v_int (by omega), by omega, hide (by rw [List.length_append, HD.out]; rfl), hide (by rw [List.length_append, HL.out]; rfl), HK, hide (by rw [List.append_assoc]; exact R1.out.other hfs hbs rl), hide hbk, hide (by rw [List.append_assoc]; exact hks), hide (by rw [List.append_assoc]; exact HPn.out), hide ((HB.out.trans R2.out).trans ⟨hbs, hfs.any fun t ht => .inr (.inr (.inr ht))⟩), hide (HSh.out.snoc hk8)⟩, by simp [intOf]; omega⟩
      · rw [if_pos hz] at hK
        have HK := hide hK
        clear hK
        go_wp2_with (go_at_call 100; refine Calls.mono HNx.out ?_; rintro e w1 ⟨xv, ev, rfl, n1, n2, n3, n4, n5⟩; obtain ⟨ty, vv, rfl⟩ := n5.not hz; obtain ⟨r1, r2⟩ := HRx.out _ n1 n2 n3; have R1 := hide r1; have R2 := hide r2; have N5 := hide n5; clear n1 n2 n3 n4 n5 r1 r2)
        go_ret
        have hR := HR.out
        rw [HK.out, if_pos hz] at hR
        rw [hR]
        exact ⟨_, rfl, R1.out, HB.out.trans R2.out, N5.out⟩
    · obtain rfl : i = k := by omega
      have hK := HK.out
      rw [show l.drop i = [] from List.drop_eq_nil_of_le (by rw [HLK.out]; exact Nat.le_refl _), keysA] at hK
      have hR := HR.out
      rw [hK, if_neg (show ¬ ((0 : Int) ≠ 0) from fun e => e rfl)] at hR
      try dsimp only at hR
      have hrn := HRn.out
      have hpt := HP.out
      rw [show l.drop i = [] from List.drop_eq_nil_of_le (by rw [HLK.out]; exact Nat.le_refl _), List.append_nil] at hrn hpt
      have hkr := HKr.out
      rw [Nat.sub_self, List.replicate_zero, List.append_nil] at hkr
      have hof := of_any w.heap.size vs ks wr HKb.out hkr (by rw [HL.out]; exact hk1) (by rw [HL.out]; exact hk2)
      rw [HL.out] at hof
      have hnd := ofT_nodes (keys := ks) (by rw [HL.out]; exact hk1)
      obtain ⟨T, hT⟩ : ∃ T, T = ofT ks := ⟨_, rfl⟩
      rw [← hT] at hR hof hnd
      have HR2 := hide hR
      have HRn := hide hrn
      have HOf := hide hof
      have HNd := hide hnd.1
      have HP := hide hpt
      have hikI : ¬ (i : Int) < (i : Int) := by omega
      clear hR hrn hkr hof hnd hT hK HKb HKr HK hpt
      go_upto_region 11 with (go_at_call 136; refine Calls.mono HOf.out ?_; rintro e w2 ⟨t, tb, rfl, ht, htb, hT, hb2⟩; have HT := hide hT; have HB2 := hide hb2; clear hT hb2)
      have HRn := hide (HRn.out.keep HB2.out)
      have HB := hide (HB.out.trans (RB.below HB2.out (by have := HB.out.size; omega)))
      clear HB2
      go_loopg [] F (fun f wr => ∃ (a2 : Ar) (l2 : List Src) (x2 : Wtr) (vs2 : List Value) (keys : List (List Nat)) (tree : List Nat), Hid (R = playA f a2 l2 x2 keys tree) ∧ Hid (RunAt wr B h p lo o gw bx sg (.slice A0 i c0) was X a2 l2 x2) ∧ Hid (TreeAt wr t w.heap.size tb vs2 keys tree) ∧ Hid (NodesOK i tree) ∧ Hid (keys.length = i) ∧ Hid (potK l2 keys < f) ∧ Hid (x2.count + f ≤ 1000000) ∧ Hid (RB lo w wr) ∧ Hid (l2.length = i) ∧ Hid (Short keys))
      case atStart => exact ⟨a2, done, x, vs, ks, T, HR2, HRn, HT, hide (by have := HNd.out; rwa [HL.out] at this), HL, HP, hide hc, HB, HD, HSh⟩
      case round =>
        clear HR HR2 HRn HT HNd HP HB HOf HSh
        obtain ⟨a4, l2, x2, vs2, keys, tree, HR, HRn, HT, HN, HKL, HP, HC, HB, HL2, HSh⟩ := hrel
        obtain ⟨f, rfl⟩ : ∃ f, gk = f + 1 := ⟨gk - 1, by have := HP.out; omega⟩
        have hj := HN.out.getD hk1 0
        have hwin := win_any t w.heap.size tb vs2 keys tree wr HT.out (by rw [HKL.out]; exact hk1) (by rw [HKL.out]; exact hj)
        obtain ⟨j, hjj⟩ : ∃ j, j = tree.getD 0 0 := ⟨_, rfl⟩
        obtain ⟨k0, Ak, ck, hk0, hkl, cky, hok⟩ := tree_key HT.out (a := j) (by rw [HKL.out, hjj]; exact hj)
        have hgd : keys.getD j [] = k0 := by rw [List.getD_eq_getElem?_getD, hk0]; rfl
        rw [← hjj] at hwin hj
        have hR := HR.out
        rw [playA] at hR
        try dsimp only at hR
        rw [← hjj, hgd] at hR
        rw [hgd] at hwin
        have HJ := hide hjj
        clear hjj
        by_cases he : k0 = []
        · rw [if_pos he] at hR
          rw [he, show decide (0 < ([] : List Nat).length) = false from rfl] at hwin
          have HWin := hide hwin
          have HR := hide hR
          clear hwin hR hgd hk0 hok cky he
          go_wp2_with (go_at_call 137; refine Calls.mono HWin.out ?_; rintro e w3 ⟨rfl, n3, rfl⟩)
          go_ret
          rw [HR.out]
          exact ⟨_, rfl, HRn.out.drewN n3, HB.out.drewN n3, .inr ⟨(by decide : (0 : Int) ≠ 12), ⟨⟨#[]⟩, .inl ⟨rfl, rfl⟩⟩⟩⟩
        · rw [if_neg he] at hR
          have hlen : 0 < k0.length := by rcases k0 with _ | ⟨_, _⟩ <;> simp at he ⊢
          rw [show decide (0 < k0.length) = true from decide_eq_true hlen] at hwin
          have hpp := pot_pos (l := l2) hk0 he
          have hk8 := HSh.out k0 (List.mem_of_getElem? hk0)
          obtain ⟨s, hs⟩ : ∃ s, l2[j]? = some s := ⟨_, List.getElem?_eq_getElem (by rw [HL2.out]; exact hj)⟩
          obtain ⟨q, hq⟩ : ∃ q, sg[j]? = some q := ⟨_, List.getElem?_eq_getElem (by rw [← HKK.out]; exact hj)⟩
          have hgs : l2.getD j ⟨⟨⟨#[]⟩, 0, 0, 0, 0, 0, 0⟩, []⟩ = s := by rw [List.getD_eq_getElem?_getD, hs]; rfl
          rw [hgs] at hR
          have hcn : x2.count < 1000000 := by have := HC.out; omega
          have hrow := HRn.out.row
          rw [← HKK.out] at hrow
          obtain ⟨b0, rfl, hb0, hji, cp⟩ := own_ptr hrow hq
          obtain ⟨ct0, ct1⟩ := two_cells HT.out.blk
          rw [HKL.out] at ct0 ct1
          have hlt0 := HT.out.blk.lt
          have hltk := HT.out.kbk.lt
          have hlo : lo ≤ wr.heap.size := by have := HB.out.size; omega
          have hpu := fun W (r : RunAt W B h p lo o gw bx sg (.slice (some ⟨b0, 0, none⟩) i c0) was X a4 l2 x2) (ho : W.ownsRow 0 27 1 (.slice Ak k0.length ck) k0.length (vu64 k0)) => intoPut_any B p gw bx ck Ak k0 a4 x2 W r.ar r.inv r.wr r.ptr r.held (by have := r.at_; omega) (by omega) (by omega) ho
          have hpn := wput_not12 a4 x2 k0
          have hps := fun W W' (r : RunAt W B h p lo o gw bx sg (.slice (some ⟨b0, 0, none⟩) i c0) was X a4 l2 x2) (hl : lo ≤ W.heap.size) n1 n2 n3 => r.put (W' := W') rl hl hcn hk8 n1 n2 n3
          have hpc := (wput_sp HRn.out.inv HRn.out.held k0).2.2.2.2.2.1
          obtain ⟨P, hP⟩ : ∃ P, P = wput a4 x2 k0 := ⟨_, rfl⟩
          rw [← hP] at hR hpu hpn hps hpc
          obtain ⟨a5, x5, z5⟩ := P
          dsimp only at hR hpu hpn hps hpc
          have HWin := hide hwin
          have HPu := hide hpu
          have HPs := hide hps
          have HOk := hide hok
          have HK0 := hide hk0
          have HS := hide hs
          have HPn := hide hpn
          have HPc := hide hpc
          have HHe := hide he
          have hwty : ∀ W, WrAt W p gw x2 → STy (fun k => k = gw) W (fun t => t = 201) := fun W hW k hk => by
            obtain rfl : k = gw := hk
            exact ⟨_, _, _, hW, rfl⟩
          have HWty := hide hwty
          clear hwin hpu hps hok hk0 hs hpn hpc hgd hgs hP hrow he hwty
          by_cases hz5 : z5 = 0
          · subst hz5
            rw [if_neg (show ¬ ((0 : Int) ≠ 0) from fun e => e rfl)] at hR
            have hso := HRn.out.ok s (List.mem_of_getElem? HS.out)
            have hlq := HRn.out.srcs.low q (List.mem_of_getElem? hq)
            have hnx := fun W (r : RunAt W B h p lo o gw bx sg (.slice (some ⟨b0, 0, none⟩) i c0) was X a5 l2 x5) hl => snext_any B p q.1 q.2 lo o a5 s W r.ord rl.fld hl rl.ord hlq.1 hlq.2 r.ar r.inv (r.srcs.at_ j q s hq HS.out) (r.ok s (List.mem_of_getElem? HS.out))
            have hrx := fun W W' (r : RunAt W B h p lo o gw bx sg (.slice (some ⟨b0, 0, none⟩) i c0) was X a5 l2 x5) hl n1 n2 n3 => r.next (W' := W') rl hl hq HS.out n1 n2 n3
            have hnr := fun (hv : InvA a5) (ok : SrcOK a5 s) => nextS_rem hv ok
            have hns := fun (hv : InvA a5) (ok : SrcOK a5 s) => (nextS_sp hv ok).2.2.2.2.2
            have hw8 := hso.w8
            obtain ⟨N, hN⟩ : ∃ N, N = nextS a5 s := ⟨_, rfl⟩
            rw [← hN] at hR hnx hrx hnr hns
            obtain ⟨a6, s6, key, z6⟩ := N
            dsimp only at hR hnx hrx hnr hns
            have HNx := hide hnx
            have HRx := hide hrx
            have HNr := hide hnr
            have HNs := hide hns
            clear hnx hrx hnr hns hN hso hlq
            by_cases hz6 : z6 = 0
            · subst hz6
              rw [if_neg (show ¬ ((0 : Int) ≠ 0) from fun e => e rfl)] at hR
              have HR := hide hR
              clear hR
              go_upto_region 20 with (first
                | (go_at_call 100; refine Calls.mono (HNx.out _ R1.out hlo4) ?_; rintro e w5 ⟨xv, ev, rfl, n1, n2, n4, n5, n6⟩; obtain rfl := n6.zero; obtain ⟨Ax, cx, rfl, hox⟩ := n5.own; have hf5 := n4.ty (R1.out.srcs.at_ j q s hq HS.out).sty; have ht5 := HT4.out.other hf5 (by unfold nty ATy; decide) (by unfold nty ATy; decide) (by unfold nty ATy; decide) (by unfold nty ATy; decide); obtain ⟨r1, r2⟩ := HRx.out _ _ R1.out hlo4 n1 n2 n4; have Q1 := hide r1; have Q2 := hide r2; have HT5 := hide ht5; have HOx := hide hox; clear n1 n2 n4 n5 n6 r1 r2 hf5 ht5 hox)
                | (go_at_call 98; refine Calls.mono (HPu.out _ (HRn.out.drewN n3) HOk.out) ?_; rintro e w4 ⟨ev, rfl, n1, n2, n4, n5⟩; obtain rfl := n5.zero; have hf4 := (XFr.of (S := fun k => k = gw) n4 rfl).ty (HWty.out _ (HRn.out.drewN n3).wr); have ht4 := (HT.out.drewN n3).other hf4 (by unfold ATy; decide) (by unfold ATy; decide) (by unfold ATy; decide) (by unfold ATy; decide); obtain ⟨r1, r2⟩ := HPs.out _ _ (HRn.out.drewN n3) hlo n1 n2 n4; have hlo4 : lo ≤ w4.heap.size := Nat.le_trans hlo r2.size; have hrw4 := r1.row; rw [← HKK.out] at hrw4; obtain ⟨b4, hb4, hbl4, _, cp4⟩ := own_ptr hrw4 hq; cases hb4; have R1 := hide r1; have R2 := hide r2; have HT4 := hide ht4; clear n1 n2 n4 n5 r1 r2 hf4 ht4 hrw4)
                | (go_at_call 137; refine Calls.mono HWin.out ?_; rintro e w3 ⟨rfl, n3, rfl⟩))
              have hk6 : key.length ≤ 8 := by
                rcases HNs.out R1.out.inv (R1.out.ok s (List.mem_of_getElem? HS.out)) with h | h
                · rw [h]; decide
                · omega
              have hrp := replace_any t w.heap.size tb vs2 keys tree key Ax cx w5 HT5.out (by rw [HKL.out]; exact hk1) (by rw [HKL.out]; exact HN.out) (by omega) HOx.out
              obtain ⟨hn1, hn2, hn3⟩ := replaceT_nodes (keys := keys) (key := key) hk1 HN.out
              rw [← HJ.out] at hn3
              have hpp2 := pot_play (key := key) (y := s6) HS.out HK0.out HHe.out (HNr.out R1.out.inv (R1.out.ok s (List.mem_of_getElem? HS.out)))
              rw [← hn3] at hpp2
              have hsh := HSh.out.set_ j hk6
              rw [← hn3] at hsh
              have hkl2 : (replaceT keys tree key).1.length = i := by rw [hn3, List.length_set]; exact HKL.out
              obtain ⟨Z, hZ⟩ : ∃ Z, Z = replaceT keys tree key := ⟨_, rfl⟩
              rw [← hZ] at hrp hn1 hpp2 hsh hkl2 HR
              have HRp := hide hrp
              have HN1 := hide hn1
              have hpf : potK (l2.set j s6) Z.1 < f := by have := HP.out; omega
              have HPf := hide hpf
              have HSh2 := hide hsh
              have HKl2 := hide hkl2
              have hcf : x5.count + f ≤ 1000000 := by have := HC.out; have := HPc.out; omega
              have HCf := hide hcf
              have hls : (l2.set j s6).length = i := by rw [List.length_set]; exact HL2.out
              have HLs := hide hls
              have hsty5 : STy (fun k => k = w.heap.size ∨ k = tb) w5 ktyT := fun k hk => by
                rcases hk with rfl | rfl
                · exact ⟨_, _, _, HT5.out.kbk, .inl rfl⟩
                · exact ⟨_, _, _, HT5.out.tbk, .inr rfl⟩
              have HSt5 := hide hsty5
              clear hrp hn1 hn2 hn3 hpp2 hsh hkl2 hZ hpf hcf hls hsty5 hk6
              go_wp2_with (go_at_call 138; refine Calls.mono HRp.out ?_; rintro e w6 ⟨rfl, ⟨vs6, ht6⟩, hf6⟩; have HT6 := hide ht6; have HF6 := hide hf6; clear ht6 hf6)
              go_roundg f
              case rel =>
                have hb6 : Below lo w5 w6 := HF6.out.toBelowB (fun k hk => by rcases hk with e | e <;> omega) (Nat.le_trans hlo4 Q2.out.size)
                exact ⟨a6, l2.set j s6, x5, vs6, Z.1, Z.2, HR, hide (Q1.out.other (HF6.out.ty HSt5.out) hb6 rl), HT6, HN1, HKl2, HPf, HCf, hide ((((HB.out.drewN n3).trans R2.out).trans Q2.out).trans ⟨hb6, (HF6.out.ty HSt5.out).any fun t ht => .inr (.inr (.inr ht))⟩), HLs, HSh2⟩
              case measure => omega
            · rw [if_pos hz6] at hR
              have HR := hide hR
              clear hR
              go_wp2_with (first
                | (go_at_call 100; refine Calls.mono (HNx.out _ R1.out hlo4) ?_; rintro e w5 ⟨xv, ev, rfl, n1, n2, n4, n5, n6⟩; obtain ⟨ty, vv, rfl⟩ := n6.not hz6; obtain ⟨r1, r2⟩ := HRx.out _ _ R1.out hlo4 n1 n2 n4; have Q1 := hide r1; have Q2 := hide r2; have N6 := hide n6; clear n1 n2 n4 n5 n6 r1 r2)
                | (go_at_call 98; refine Calls.mono (HPu.out _ (HRn.out.drewN n3) HOk.out) ?_; rintro e w4 ⟨ev, rfl, n1, n2, n4, n5⟩; obtain rfl := n5.zero; obtain ⟨r1, r2⟩ := HPs.out _ _ (HRn.out.drewN n3) hlo n1 n2 n4; have hlo4 : lo ≤ w4.heap.size := Nat.le_trans hlo r2.size; have hrw4 := r1.row; rw [← HKK.out] at hrw4; obtain ⟨b4, hb4, hbl4, _, cp4⟩ := own_ptr hrw4 hq; cases hb4; have R1 := hide r1; have R2 := hide r2; clear n1 n2 n4 n5 r1 r2 hrw4)
                | (go_at_call 137; refine Calls.mono HWin.out ?_; rintro e w3 ⟨rfl, n3, rfl⟩))
              go_ret
              rw [HR.out]
              exact ⟨_, rfl, Q1.out, ((HB.out.drewN n3).trans R2.out).trans Q2.out, N6.out⟩
          · rw [if_pos hz5] at hR
            have HR := hide hR
            clear hR
            go_wp2_with (first
              | (go_at_call 98; refine Calls.mono (HPu.out _ (HRn.out.drewN n3) HOk.out) ?_; rintro e w4 ⟨ev, rfl, n1, n2, n4, n5⟩; obtain ⟨r1, r2⟩ := HPs.out _ _ (HRn.out.drewN n3) hlo n1 n2 n4; obtain ⟨tg, tdo, rfl, tk⟩ := ErrV.not n5 hz5; have R1 := hide r1; have R2 := hide r2; have N5 := hide n5; clear n1 n2 n4 n5 r1 r2 tk)
              | (go_at_call 137; refine Calls.mono HWin.out ?_; rintro e w3 ⟨rfl, n3, rfl⟩))
            go_ret
            rw [HR.out]
            exact ⟨_, rfl, R1.out, (HB.out.drewN n3).trans R2.out, .inr ⟨HPn.out, N5.out⟩⟩
end Go.Proofs.YtmopegpkoedgbaaGreatDoor
/- Walk: merge.Into, whatever opens the new file. -/
namespace Go.Proofs.YtmopegpkoedgbaaGreatDoor
open Go.RowKit Go.Sort Go.Shelf

attribute [local go_sem] Oper.semAt_some
/-- What Into makes, of what opens the new file. -/
def intoG (opA : Nat → Nat → Ar → Ar × Wtr × Int) (names : List ByteArray) (a : Ar) : Ar × Int :=
  let s := sourcesA names a [] 0 0
  if s.2.2.2 ≠ 0 then (s.1, s.2.2.2)
  else
    let o := opA (((s.2.1.head?).map fun x => x.rdr.width).getD 0) s.2.2.1 s.1
    if o.2.2 ≠ 0 then (o.1, o.2.2)
    else
      let r := runA (s.2.2.1 + 1) s.2.1 o.1 o.2.1
      if r.2.2.2 ≠ 0 then (r.1, r.2.2.2)
      else
        let z := wseal r.1 r.2.2.1
        (z.1, z.2.2)
theorem intoA_eq (names : List ByteArray) (to_ : ByteArray) (a : Ar) : intoA names to_ a = intoG (fun w r a => toA a to_ (w : Nat) r) names a := by
  unfold intoA intoG runA
  dsimp only
  split
  · rfl
  · split
    · rfl
    · by_cases h : (keysA (sourcesA names a [] 0 0).2.1 (toA (sourcesA names a [] 0 0).1 to_ ((((sourcesA names a [] 0 0).2.1.head?).map fun x => x.rdr.width).getD 0 : Nat) (sourcesA names a [] 0 0).2.2.1).1 [] []).2.2.2 = 0
      · simp only [h, ne_eq, not_true_eq_false, if_false]
      · simp only [h, ne_eq, not_false_eq_true, if_true]
theorem sourcesA_bad : ∀ (names : List ByteArray) (a : Ar) (out : List Src) (sum : Nat) (bad : Int), bad ≠ 0 → (sourcesA names a out sum bad).2.2.2 ≠ 0
  | [], _, _, _, _, h => h
  | n :: r, a, out, sum, bad, h => by
    rw [sourcesA]
    dsimp only
    split
    · assumption
    · refine sourcesA_bad r _ _ _ _ ?_
      split
      · decide
      · split
        · decide
        · exact h
theorem sourcesA_sum : ∀ (names : List ByteArray) (a : Ar) (out : List Src) (sum : Nat) (bad : Int), sum ≤ 65536 → (sourcesA names a out sum bad).2.2.2 = 0 → (sourcesA names a out sum bad).2.2.1 ≤ 65536
  | [], _, _, _, _, h, _ => h
  | n :: r, a, out, sum, bad, h, hz => by
    rw [sourcesA] at hz ⊢
    dsimp only at hz ⊢
    split at hz
    · rename_i h1
      exact absurd hz h1
    · rename_i h1
      rw [if_neg h1]
      by_cases hb : 65536 < sum + (fromW a n).2.1.count
      · rw [if_pos hb] at hz
        exact absurd hz (sourcesA_bad r _ _ _ _ (by decide))
      · exact sourcesA_sum r _ _ _ _ (by omega) hz
/-- What an opening may write besides. -/
def OTy (t : TypeId) : Prop := ATy t ∨ t = 120 ∨ t = 9
/-- What a merge may write. -/
def ITy (t : TypeId) : Prop := RTy t ∨ t = 120 ∨ t = 9
/-- What a writer is that has written nothing. -/
structure FreshX (a : Ar) (x : Wtr) : Prop where
  held : x.held = 0
  at_ : x.at_ = 0
  cnt : x.count = 0
  wid : x.width ≤ 8
/-- The error that is told of a merge's run. -/
theorem is_order (W : World) (o : Addr) (ev : Value) (z : Int) (h : ErrO W o ev z) : Calls Tryz.prog 84 #[ev, .iface 324 (.pointer (some o))] W fun e w' => (e = .returned (.bool (decide (z = 12)))) ∧ w' = W := by
  rcases h with ⟨rfl, rfl⟩ | ⟨hz, h⟩
  · exact is_same o W
  · rw [decide_eq_false hz]
    by_cases h0 : z = 0
    · subst h0
      obtain rfl := h.zero
      exact is_nil o W
    · obtain ⟨g, d, rfl, hk⟩ := h.not h0
      exact is_trouble_sentinel g d z o W hk
theorem SrcsAt.down {w : World} {p lo lo' : Nat} {sg : List (Nat × Nat)} {l : List Src} (h : SrcsAt w p lo sg l) (hl : lo' ≤ lo) : SrcsAt w p lo' sg l := ⟨h.len, h.at_, fun q hq => by have := h.low q hq; omega, h.nd⟩
set_option maxRecDepth 100000 in
set_option maxHeartbeats 8000000 in
theorem into_any (opA : Nat → Nat → Ar → Ar × Wtr × Int) (OF : Nat) (caps : Array Value) (eg : ∀ args w, (callFunc OF args).run Tryz.prog w = .ok (.enter OF args) w)
    (B : Fld) (h p lo n cn : Nat) (o : Addr) (A : Option Addr) (names : List ByteArray) (was : Dsk) {X : WkX} (a : Ar) (w : World) (hlo : ∀ k, B.ok k → lo ≤ k) (hl : lo ≤ w.heap.size) (hn : n ≤ lo) (hgl : 0 < lo) (hO : OrdAt w o) (hA : Rd w n A (vstr names)) (hnm : ∀ s ∈ names, s.size ≤ 100000000) (hn1 : 1 ≤ names.length) (hnl : names.length ≤ 1000000) (hw : WkAt w B h p was X) (ha : ArAt w B p a) (hv : InvA a)
    (P : WkX → Prop) (hPX : P X) (K : World → Prop) (hK : K w) (hKb : ∀ W W', K W → AFr ATy B W W' → K W')
    (hop : ∀ (wd room : Nat) (a2 : Ar) (W : World), K W → WkAt W B h p was X → ArAt W B p a2 → InvA a2 → lo ≤ W.heap.size → Calls Tryz.prog OF (#[.int .i64 wd, .int .u64 room] ++ caps) W fun e W' => ∃ pa ev X', P X' ∧ e = .returned (.tuple #[.pointer pa, ev]) ∧ ArAt W' B p (opA wd room a2).1 ∧ WkAt W' B h p was X' ∧ InvA (opA wd room a2).1 ∧ Kp a2 (opA wd room a2).1 ∧ AFr OTy (fl 0) W W' ∧ Below lo W W' ∧ ErrV W' ev (opA wd room a2).2.2 ∧
      ((opA wd room a2).2.2 = 0 → ∃ g, lo ≤ g ∧ pa = some ⟨g, 0, none⟩ ∧ WrAt W' p g (opA wd room a2).2.1 ∧ FreshX (opA wd room a2).1 (opA wd room a2).2.1)) :
    Calls Tryz.prog 57 #[.pointer (some ⟨h, 0, none⟩), .slice A names.length cn, .func (.func OF) #[] caps] w fun e w' => ∃ ev X', P X' ∧ e = .returned ev ∧ ArAt w' B p (intoG opA names a).1 ∧ InvA (intoG opA names a).1 ∧ WkAt w' B h p was X' ∧ Below lo w w' ∧ AFr ITy (fl 0) w w' ∧ ErrV w' ev (intoG opA names a).2 := by
  obtain ⟨R, hR⟩ : ∃ R, R = intoG opA names a := ⟨_, rfl⟩
  rw [← hR]
  unfold intoG at hR
  dsimp only at hR
  have hso := sources_any B h p lo n cn A names was (X := X) a w hlo hl hn hA hnm hnl hw ha hv
  have hsi := sourcesA_inv names (out := []) (sum := 0) (bad := 0) hv
  have hsp := fun h => sourcesA_sp names (a := a) (out := []) (sum := 0) (bad := 0) hv (fun x hx => by cases hx) rfl h
  have hsm := sourcesA_sum names a [] 0 0 (by decide)
  obtain ⟨S, hS⟩ : ∃ S, S = sourcesA names a [] 0 0 := ⟨_, rfl⟩
  rw [← hS] at hR hso hsi hsp hsm
  obtain ⟨a2, srcs, sum, z⟩ := S
  dsimp only at hR hso hsi hsp hsm
  have hfl := fun (d : ByteArray) (z : Int) W => fail_any d z W
  have HSo := hide hso
  have HSi := hide hsi
  have HSp := hide hsp
  have HFl := hide hfl
  have HO := hide hO
  have HK := hide hK
  have HKb := hide hKb
  have HOp := hide hop
  clear hso hsi hsp hfl hO hK hKb hop hw ha hv hA hnm hS
  by_cases hz : z = 0
  · subst hz
    rw [if_neg (show ¬ ((0 : Int) ≠ 0) from fun e => e rfl)] at hR
    obtain ⟨hp1, hp2, hp3, hp4⟩ := HSp.out rfl
    have hs16 := hsm rfl
    try dsimp only at hp1 hp2 hp3 hp4
    rw [List.length_nil, Nat.zero_add] at hp4
    obtain ⟨x0, hx0⟩ : ∃ x0, srcs[0]? = some x0 := ⟨_, List.getElem?_eq_getElem (by omega)⟩
    have hh0 : ((srcs.head?).map fun s => s.rdr.width).getD 0 = x0.rdr.width := by
      rw [List.head?_eq_getElem?, hx0]; rfl
    rw [hh0] at hR
    obtain ⟨wd0, hwd0⟩ : ∃ wd0, wd0 = x0.rdr.width := ⟨_, rfl⟩
    rw [← hwd0] at hR
    have hop := fun W hk hw ha hl => HOp.out wd0 sum a2 W hk hw ha hp1 hl
    obtain ⟨O, hO⟩ : ∃ O, O = opA wd0 sum a2 := ⟨_, rfl⟩
    rw [← hO] at hop hR
    obtain ⟨a3, x, z3⟩ := O
    dsimp only at hop hR
    have HOp := hide hop
    have HP2 := hide hp2
    have HP3 := hide hp3
    have HP4 := hide hp4
    have HX0 := hide hx0
    have HWd := hide hwd0
    clear hop hp2 hp3 hp4 hx0 hh0 hwd0 hO HSp hsm
    by_cases hz3 : z3 = 0
    · subst hz3
      rw [if_neg (show ¬ ((0 : Int) ≠ 0) from fun e => e rfl)] at hR
      have hru := fun (W : World) (g bx : Nat) (sg : List (Nat × Nat)) (lv : Value) (X' : WkX) r rl hl hk1 hk2 hc => run_any B h p lo o g bx (sum + 1) sg lv was (X := X') a3 srcs x W r rl hl hk1 hk2 (by rw [HP3.out]; exact Nat.lt_succ_self _) hc
      obtain ⟨Q, hQ⟩ : ∃ Q, Q = runA (sum + 1) srcs a3 x := ⟨_, rfl⟩
      rw [← hQ] at hru hR
      obtain ⟨a4, l4, x4, z4⟩ := Q
      dsimp only at hru hR
      have HRu := hide hru
      clear hru hQ
      by_cases h12 : z4 = 12
      · subst h12
        rw [if_pos (show (12 : Int) ≠ 0 by decide)] at hR
        have HR := hide hR
        clear hR
        go_enter Tryz.func57, Tryz.ntmps57
        go_upto_region 4 with (go_at_call 96; refine Calls.mono HSo.out ?_; rintro e w1 ⟨lv, sg, sm, ev, rfl, n1, n2, n3, nf, n4, n5⟩; have NF := hide (nf.any (T' := ITy) fun t ht => .inl (.inl ht)); obtain rfl := n4.zero; obtain ⟨rfl, n6, n7⟩ := n5 (by first | rfl | trivial); obtain ⟨Al, cl, rfl⟩ := own_formk n7; have hsl := n6.len; have hk1 : 1 ≤ sg.length := (by have := HP4.out; omega); obtain ⟨q0, hq0⟩ : ∃ q0, sg[0]? = some q0 := ⟨_, List.getElem?_eq_getElem hk1⟩; obtain ⟨rb, rfl, hrb, hri, crb⟩ := own_ptr n7 hq0; obtain ⟨lv0, kq, kr, _⟩ := n6.at_ 0 q0 x0 hq0 HX0.out; obtain ⟨d0, _⟩ := two_cells kq; obtain ⟨_, _, y2, _, _, _, _, _⟩ := eight_cells kr; rw [← HWd.out] at y2; have hlq := kq.lt; have hlr := Bk.lt kr; have hlo1 : lo ≤ w1.heap.size := Nat.le_trans hl n3.size; have HK1 := hide (HKb.out _ _ HK.out nf); have HO1 := hide (HO.out.low n3 hgl); have N1 := hide n1; have N2 := hide n2; have N3 := hide n3; have N6 := hide n6; have N7 := hide n7; have HSl := hide hsl; clear n1 n2 n3 nf n4 n5 n6 n7 kq kr hq0 hsl)
        go_upto_region 7 with (refine Calls.mono (HOp.out _ HK1.out N2.out N1.out hlo1) ?_; rintro e w2 ⟨pa, ev, X', hPx, rfl, m1, m2, m3, m4, m5, m6, m7, m8⟩; obtain rfl := m7.zero; obtain ⟨g, hg, rfl, hwg, hfx⟩ := m8 (by first | rfl | trivial); have M1 := hide m1; have M2 := hide m2; have M3 := hide m3; have M4 := hide m4; have M5 := hide m5; have M6 := hide m6; have HWg := hide hwg; have HFx := hide hfx; clear m1 m2 m3 m4 m5 m6 m7 m8 hwg hfx)
        obtain ⟨W3, hW3⟩ : ∃ W3, W3 = w2.alloc (.cells #[.pointer (some ⟨g, 0, none⟩)] 91) := ⟨_, rfl⟩
        have hb3 : Below w2.heap.size w2 W3 := by rw [hW3]; exact ba1 _ _
        have hk3 : Bk W3 w2.heap.size 91 #[.pointer (some ⟨g, 0, none⟩)] := by rw [hW3]; exact Bk.new _ _ _
        rw [← hW3]
        have hlo2 : lo ≤ w2.heap.size := Nat.le_trans hlo1 M6.out.size
        have hlo3 : lo ≤ W3.heap.size := Nat.le_trans hlo2 hb3.size
        have hrun : RunAt W3 B h p lo o g w2.heap.size sg (.slice (some ⟨rb, 0, none⟩) sg.length cl) was X' a3 srcs x := ⟨M1.out.keep hb3, M3.out, ((N6.out.down hl).other M5.out (by unfold OTy ATy; decide) (by unfold OTy ATy; decide) (by unfold OTy ATy; decide)).keep hb3, HP2.out.kp M4.out, Bk.keep HWg.out hb3, fun h0 => by have := HFx.out.held; omega, by rw [HFx.out.at_]; exact Nat.zero_le _, by rw [HFx.out.cnt]; exact Nat.zero_le _, HFx.out.wid, hk3, own_base (own_keep (own_afr N7.out M5.out (by unfold OTy ATy; decide)) hb3) (fun _ _ => Nat.zero_le _), HO1.out.low (M6.out.trans (hb3.mono hlo2)) hgl, M2.out.keep hb3⟩
        have hca := HRu.out W3 g w2.heap.size sg _ X' hrun ⟨hlo, hgl, hg⟩ hlo3 hk1 (by have := HP4.out; have := HSl.out; omega) (by rw [HFx.out.cnt]; omega)
        have HFl3 := hide ((NF.out.trans (M5.out.any (T' := ITy) fun t ht => ht.elim (fun e => .inl (.inl e)) .inr)).trans (AFr.below hb3))
        have hbl3 : Below lo w W3 := (N3.out.trans M6.out).trans (hb3.mono hlo2)
        have HCa := hide hca
        have HBl3 := hide hbl3
        clear hb3 hk3 hW3 hrun hca hbl3
        go_upto_region 8 with (go_at_call 97; refine Calls.mono HCa.out ?_; rintro e w4 ⟨ev, rfl, r1, r2, r3⟩; have ho4 : w4.cell? ⟨0, 0, none⟩ = some (.iface 324 (.pointer (some o))) := r1.ord; have hgs4 : 0 < w4.heap.size := World.block_lt_of_cell? w4 _ ho4; have hp4 : w4.cell? ⟨w2.heap.size, 0, none⟩ = some (.pointer (some ⟨g, 0, none⟩)) := r1.ptr.cell 0; have hpl4 := r1.ptr.lt; have his := is_order w4 o ev _ r3; have HIs := hide his; have R1 := hide r1; have R2 := hide r2.b; have RF := hide (r2.f.any (T' := ITy) fun t ht => .inl ht); have R3 := hide r3; clear r1 r2 r3 his)
        go_wp2_with (first
          | (go_at_call 56; refine Calls.mono (HFl.out _ _ _) ?_; rintro e w6 ⟨ev6, rfl, he6, hb6⟩; have HE6 := hide he6; have HB6 := hide hb6; clear he6 hb6)
          | (go_at_call 84; refine Calls.mono HIs.out ?_; rintro e w5 ⟨rfl, ew⟩; obtain rfl : w4 = w5 := ew.symm))
        go_ret
        rw [HR.out]
        exact ⟨_, X', hPx, rfl, R1.out.ar.keep HB6.out, R1.out.inv, R1.out.wk.keep HB6.out, (HBl3.out.trans R2.out).trans (HB6.out.mono (Nat.le_trans hlo3 R2.out.size)), (HFl3.out.trans RF.out).trans (AFr.below HB6.out), ⟨_, HE6.out⟩⟩
      · by_cases h0 : z4 = 0
        · subst h0
          rw [if_neg (show ¬ ((0 : Int) ≠ 0) from fun e => e rfl)] at hR
          have hse := fun (g : Nat) (W : World) h1 h2 h3 h4 h5 h6 => seal_any B p g a4 x4 W h1 h2 h3 h4 h5 h6
          have hsi := fun h => wseal_sp (a := a4) h x4
          obtain ⟨Z, hZ⟩ : ∃ Z, Z = wseal a4 x4 := ⟨_, rfl⟩
          rw [← hZ] at hse hsi hR
          obtain ⟨a5, x5, z5⟩ := Z
          dsimp only at hse hsi hR
          have HSe := hide hse
          have HSi2 := hide hsi
          have HR := hide hR
          clear hR hse hsi hZ
          go_enter Tryz.func57, Tryz.ntmps57
          go_upto_region 4 with (go_at_call 96; refine Calls.mono HSo.out ?_; rintro e w1 ⟨lv, sg, sm, ev, rfl, n1, n2, n3, nf, n4, n5⟩; have NF := hide (nf.any (T' := ITy) fun t ht => .inl (.inl ht)); obtain rfl := n4.zero; obtain ⟨rfl, n6, n7⟩ := n5 (by first | rfl | trivial); obtain ⟨Al, cl, rfl⟩ := own_formk n7; have hsl := n6.len; have hk1 : 1 ≤ sg.length := (by have := HP4.out; omega); obtain ⟨q0, hq0⟩ : ∃ q0, sg[0]? = some q0 := ⟨_, List.getElem?_eq_getElem hk1⟩; obtain ⟨rb, rfl, hrb, hri, crb⟩ := own_ptr n7 hq0; obtain ⟨lv0, kq, kr, _⟩ := n6.at_ 0 q0 x0 hq0 HX0.out; obtain ⟨d0, _⟩ := two_cells kq; obtain ⟨_, _, y2, _, _, _, _, _⟩ := eight_cells kr; rw [← HWd.out] at y2; have hlq := kq.lt; have hlr := Bk.lt kr; have hlo1 : lo ≤ w1.heap.size := Nat.le_trans hl n3.size; have HK1 := hide (HKb.out _ _ HK.out nf); have HO1 := hide (HO.out.low n3 hgl); have N1 := hide n1; have N2 := hide n2; have N3 := hide n3; have N6 := hide n6; have N7 := hide n7; have HSl := hide hsl; clear n1 n2 n3 nf n4 n5 n6 n7 kq kr hq0 hsl)
          go_upto_region 7 with (refine Calls.mono (HOp.out _ HK1.out N2.out N1.out hlo1) ?_; rintro e w2 ⟨pa, ev, X', hPx, rfl, m1, m2, m3, m4, m5, m6, m7, m8⟩; obtain rfl := m7.zero; obtain ⟨g, hg, rfl, hwg, hfx⟩ := m8 (by first | rfl | trivial); have M1 := hide m1; have M2 := hide m2; have M3 := hide m3; have M4 := hide m4; have M5 := hide m5; have M6 := hide m6; have HWg := hide hwg; have HFx := hide hfx; clear m1 m2 m3 m4 m5 m6 m7 m8 hwg hfx)
          obtain ⟨W3, hW3⟩ : ∃ W3, W3 = w2.alloc (.cells #[.pointer (some ⟨g, 0, none⟩)] 91) := ⟨_, rfl⟩
          have hb3 : Below w2.heap.size w2 W3 := by rw [hW3]; exact ba1 _ _
          have hk3 : Bk W3 w2.heap.size 91 #[.pointer (some ⟨g, 0, none⟩)] := by rw [hW3]; exact Bk.new _ _ _
          rw [← hW3]
          have hlo2 : lo ≤ w2.heap.size := Nat.le_trans hlo1 M6.out.size
          have hlo3 : lo ≤ W3.heap.size := Nat.le_trans hlo2 hb3.size
          have hrun : RunAt W3 B h p lo o g w2.heap.size sg (.slice (some ⟨rb, 0, none⟩) sg.length cl) was X' a3 srcs x := ⟨M1.out.keep hb3, M3.out, ((N6.out.down hl).other M5.out (by unfold OTy ATy; decide) (by unfold OTy ATy; decide) (by unfold OTy ATy; decide)).keep hb3, HP2.out.kp M4.out, Bk.keep HWg.out hb3, fun h0 => by have := HFx.out.held; omega, by rw [HFx.out.at_]; exact Nat.zero_le _, by rw [HFx.out.cnt]; exact Nat.zero_le _, HFx.out.wid, hk3, own_base (own_keep (own_afr N7.out M5.out (by unfold OTy ATy; decide)) hb3) (fun _ _ => Nat.zero_le _), HO1.out.low (M6.out.trans (hb3.mono hlo2)) hgl, M2.out.keep hb3⟩
          have hca := HRu.out W3 g w2.heap.size sg _ X' hrun ⟨hlo, hgl, hg⟩ hlo3 hk1 (by have := HP4.out; have := HSl.out; omega) (by rw [HFx.out.cnt]; omega)
          have HFl3 := hide ((NF.out.trans (M5.out.any (T' := ITy) fun t ht => ht.elim (fun e => .inl (.inl e)) .inr)).trans (AFr.below hb3))
          have hbl3 : Below lo w W3 := (N3.out.trans M6.out).trans (hb3.mono hlo2)
          have HCa := hide hca
          have HBl3 := hide hbl3
          clear hb3 hk3 hW3 hrun hca hbl3
          go_upto_region 8 with (go_at_call 97; refine Calls.mono HCa.out ?_; rintro e w4 ⟨ev, rfl, r1, r2, r3⟩; have ho4 : w4.cell? ⟨0, 0, none⟩ = some (.iface 324 (.pointer (some o))) := r1.ord; have hgs4 : 0 < w4.heap.size := World.block_lt_of_cell? w4 _ ho4; have hp4 : w4.cell? ⟨w2.heap.size, 0, none⟩ = some (.pointer (some ⟨g, 0, none⟩)) := r1.ptr.cell 0; have hpl4 := r1.ptr.lt; have his := is_order w4 o ev _ r3; have HIs := hide his; have R1 := hide r1; have R2 := hide r2.b; have RF := hide (r2.f.any (T' := ITy) fun t ht => .inl ht); have R3 := hide r3; clear r1 r2 r3 his)
          obtain rfl := ErrO.zero R3.out
          have hsl := HSe.out g w4 R1.out.ar R1.out.inv R1.out.wr R1.out.held.lt R1.out.wid (by have := R1.out.at_; have := R1.out.cnt; omega)
          have HSl2 := hide hsl
          clear hsl
          have hdf : decide ((0 : Int) = 12) = false := rfl
          go_wp2_with (first
            | (go_at_call 56; refine Calls.mono (HFl.out _ _ _) ?_; rintro e w7 ⟨ev7, rfl, he7, hb7⟩; have HE7 := hide he7; have HB7 := hide hb7; clear he7 hb7)
            | (go_at_call 95; refine Calls.mono HSl2.out ?_; rintro e w6 ⟨rfl, q1, _, q3⟩; have HF6 := hide (((XFr.of (S := fun k => k = g) q3 rfl).ty (T := fun t => t = 201) (fun k hk => by obtain rfl : k = g := hk; exact ⟨_, _, _, R1.out.wr, rfl⟩)).any (T' := ITy) fun t ht => ht.elim (fun e => .inl (.inr (.inr (.inl e)))) fun e => .inl (.inl e)); have hwk6 := R1.out.wk.gfr q3 R1.out.wr (by decide) (by decide) (by decide); have hb6 := (XFr.of (S := fun k => k = g) q3 rfl).low (fun k hk => by rw [hk]; exact hg) hlo (Nat.le_trans hlo3 R2.out.size); have Q1 := hide q1; have HWk6 := hide hwk6; have HB6 := hide hb6; clear q1 q3 hwk6 hb6)
            | (go_at_call 84; refine Calls.mono HIs.out ?_; rintro e w5 ⟨rfl, ew⟩; obtain rfl : w4 = w5 := ew.symm))
          go_ret
          rw [HR.out]
          exact ⟨_, X', hPx, rfl, Q1.out.keep HB7.out, (HSi2.out R1.out.inv).1, HWk6.out.keep HB7.out, ((HBl3.out.trans R2.out).trans HB6.out).trans (HB7.out.mono (Nat.le_trans (Nat.le_trans hlo3 R2.out.size) HB6.out.size)), ((HFl3.out.trans RF.out).trans HF6.out).trans (AFr.below HB7.out), ⟨_, HE7.out⟩⟩
        · rw [if_pos h0] at hR
          have HR := hide hR
          clear hR
          go_enter Tryz.func57, Tryz.ntmps57
          go_upto_region 4 with (go_at_call 96; refine Calls.mono HSo.out ?_; rintro e w1 ⟨lv, sg, sm, ev, rfl, n1, n2, n3, nf, n4, n5⟩; have NF := hide (nf.any (T' := ITy) fun t ht => .inl (.inl ht)); obtain rfl := n4.zero; obtain ⟨rfl, n6, n7⟩ := n5 (by first | rfl | trivial); obtain ⟨Al, cl, rfl⟩ := own_formk n7; have hsl := n6.len; have hk1 : 1 ≤ sg.length := (by have := HP4.out; omega); obtain ⟨q0, hq0⟩ : ∃ q0, sg[0]? = some q0 := ⟨_, List.getElem?_eq_getElem hk1⟩; obtain ⟨rb, rfl, hrb, hri, crb⟩ := own_ptr n7 hq0; obtain ⟨lv0, kq, kr, _⟩ := n6.at_ 0 q0 x0 hq0 HX0.out; obtain ⟨d0, _⟩ := two_cells kq; obtain ⟨_, _, y2, _, _, _, _, _⟩ := eight_cells kr; rw [← HWd.out] at y2; have hlq := kq.lt; have hlr := Bk.lt kr; have hlo1 : lo ≤ w1.heap.size := Nat.le_trans hl n3.size; have HK1 := hide (HKb.out _ _ HK.out nf); have HO1 := hide (HO.out.low n3 hgl); have N1 := hide n1; have N2 := hide n2; have N3 := hide n3; have N6 := hide n6; have N7 := hide n7; have HSl := hide hsl; clear n1 n2 n3 nf n4 n5 n6 n7 kq kr hq0 hsl)
          go_upto_region 7 with (refine Calls.mono (HOp.out _ HK1.out N2.out N1.out hlo1) ?_; rintro e w2 ⟨pa, ev, X', hPx, rfl, m1, m2, m3, m4, m5, m6, m7, m8⟩; obtain rfl := m7.zero; obtain ⟨g, hg, rfl, hwg, hfx⟩ := m8 (by first | rfl | trivial); have M1 := hide m1; have M2 := hide m2; have M3 := hide m3; have M4 := hide m4; have M5 := hide m5; have M6 := hide m6; have HWg := hide hwg; have HFx := hide hfx; clear m1 m2 m3 m4 m5 m6 m7 m8 hwg hfx)
          obtain ⟨W3, hW3⟩ : ∃ W3, W3 = w2.alloc (.cells #[.pointer (some ⟨g, 0, none⟩)] 91) := ⟨_, rfl⟩
          have hb3 : Below w2.heap.size w2 W3 := by rw [hW3]; exact ba1 _ _
          have hk3 : Bk W3 w2.heap.size 91 #[.pointer (some ⟨g, 0, none⟩)] := by rw [hW3]; exact Bk.new _ _ _
          rw [← hW3]
          have hlo2 : lo ≤ w2.heap.size := Nat.le_trans hlo1 M6.out.size
          have hlo3 : lo ≤ W3.heap.size := Nat.le_trans hlo2 hb3.size
          have hrun : RunAt W3 B h p lo o g w2.heap.size sg (.slice (some ⟨rb, 0, none⟩) sg.length cl) was X' a3 srcs x := ⟨M1.out.keep hb3, M3.out, ((N6.out.down hl).other M5.out (by unfold OTy ATy; decide) (by unfold OTy ATy; decide) (by unfold OTy ATy; decide)).keep hb3, HP2.out.kp M4.out, Bk.keep HWg.out hb3, fun h0 => by have := HFx.out.held; omega, by rw [HFx.out.at_]; exact Nat.zero_le _, by rw [HFx.out.cnt]; exact Nat.zero_le _, HFx.out.wid, hk3, own_base (own_keep (own_afr N7.out M5.out (by unfold OTy ATy; decide)) hb3) (fun _ _ => Nat.zero_le _), HO1.out.low (M6.out.trans (hb3.mono hlo2)) hgl, M2.out.keep hb3⟩
          have hca := HRu.out W3 g w2.heap.size sg _ X' hrun ⟨hlo, hgl, hg⟩ hlo3 hk1 (by have := HP4.out; have := HSl.out; omega) (by rw [HFx.out.cnt]; omega)
          have HFl3 := hide ((NF.out.trans (M5.out.any (T' := ITy) fun t ht => ht.elim (fun e => .inl (.inl e)) .inr)).trans (AFr.below hb3))
          have hbl3 : Below lo w W3 := (N3.out.trans M6.out).trans (hb3.mono hlo2)
          have HCa := hide hca
          have HBl3 := hide hbl3
          clear hb3 hk3 hW3 hrun hca hbl3
          go_upto_region 8 with (go_at_call 97; refine Calls.mono HCa.out ?_; rintro e w4 ⟨ev, rfl, r1, r2, r3⟩; have ho4 : w4.cell? ⟨0, 0, none⟩ = some (.iface 324 (.pointer (some o))) := r1.ord; have hgs4 : 0 < w4.heap.size := World.block_lt_of_cell? w4 _ ho4; have hp4 : w4.cell? ⟨w2.heap.size, 0, none⟩ = some (.pointer (some ⟨g, 0, none⟩)) := r1.ptr.cell 0; have hpl4 := r1.ptr.lt; have his := is_order w4 o ev _ r3; have HIs := hide his; have R1 := hide r1; have R2 := hide r2.b; have RF := hide (r2.f.any (T' := ITy) fun t ht => .inl ht); have R3 := hide r3; clear r1 r2 r3 his)
          obtain ⟨ty, vv, rfl⟩ := R3.out.not h0
          have hdf : decide (z4 = 12) = false := decide_eq_false h12
          go_wp2_with (go_at_call 84; refine Calls.mono HIs.out ?_; rintro e w5 ⟨rfl, ew⟩; obtain rfl : w4 = w5 := ew.symm)
          go_ret
          rw [HR.out]
          exact ⟨_, X', hPx, rfl, R1.out.ar, R1.out.inv, R1.out.wk, HBl3.out.trans R2.out, HFl3.out.trans RF.out, R3.out.elim (fun e => absurd e.1 h12) fun e => e.2⟩
    · rw [if_pos hz3] at hR
      have HR := hide hR
      clear hR
      go_enter Tryz.func57, Tryz.ntmps57
      go_upto_region 4 with (go_at_call 96; refine Calls.mono HSo.out ?_; rintro e w1 ⟨lv, sg, sm, ev, rfl, n1, n2, n3, nf, n4, n5⟩; have NF := hide (nf.any (T' := ITy) fun t ht => .inl (.inl ht)); obtain rfl := n4.zero; obtain ⟨rfl, n6, n7⟩ := n5 (by first | rfl | trivial); obtain ⟨Al, cl, rfl⟩ := own_formk n7; have hsl := n6.len; have hk1 : 1 ≤ sg.length := (by have := HP4.out; omega); obtain ⟨q0, hq0⟩ : ∃ q0, sg[0]? = some q0 := ⟨_, List.getElem?_eq_getElem hk1⟩; obtain ⟨rb, rfl, hrb, hri, crb⟩ := own_ptr n7 hq0; obtain ⟨lv0, kq, kr, _⟩ := n6.at_ 0 q0 x0 hq0 HX0.out; obtain ⟨d0, _⟩ := two_cells kq; obtain ⟨_, _, y2, _, _, _, _, _⟩ := eight_cells kr; rw [← HWd.out] at y2; have hlq := kq.lt; have hlr := Bk.lt kr; have hlo1 : lo ≤ w1.heap.size := Nat.le_trans hl n3.size; have HK1 := hide (HKb.out _ _ HK.out nf); have HO1 := hide (HO.out.low n3 hgl); have N1 := hide n1; have N2 := hide n2; have N3 := hide n3; have N6 := hide n6; have N7 := hide n7; have HSl := hide hsl; clear n1 n2 n3 nf n4 n5 n6 n7 kq kr hq0 hsl)
      go_upto_region 5 with (refine Calls.mono (HOp.out _ HK1.out N2.out N1.out hlo1) ?_; rintro e w2 ⟨pa, ev, X', hPx, rfl, m1, m2, m3, m4, m5, m6, m7, _⟩; have MF := hide (m5.any (T' := ITy) fun t ht => ht.elim (fun e => .inl (.inl e)) .inr); obtain ⟨tg, tdo, rfl, tk⟩ := ErrV.not m7 hz3; have M1 := hide m1; have M2 := hide m2; have M3 := hide m3; have M6 := hide m6; have M7 := hide m7; clear m1 m2 m3 m4 m5 m6 m7 tk)
      go_wp2_with fail
      go_ret
      rw [HR.out]
      have hba := ba1 w2 (.cells #[.pointer pa] 91)
      exact ⟨_, X', hPx, rfl, M1.out.keep hba, M3.out, M2.out.keep hba, (N3.out.trans M6.out).trans (hba.mono (Nat.le_trans hlo1 M6.out.size)), (NF.out.trans MF.out).trans (AFr.below hba), M7.out.keep hba⟩
  · rw [if_pos hz] at hR
    have HR := hide hR
    clear hR HSp
    go_enter Tryz.func57, Tryz.ntmps57
    go_wp2_with (go_at_call 96; refine Calls.mono HSo.out ?_; rintro e w1 ⟨lv, sg, sm, ev, rfl, n1, n2, n3, nf, n4, _⟩; have NF := hide (nf.any (T' := ITy) fun t ht => .inl (.inl ht)); obtain ⟨tg, tdo, rfl, tk⟩ := ErrV.not n4 hz; have N1 := hide n1; have N2 := hide n2; have N3 := hide n3; have N4 := hide n4; clear n1 n2 n3 n4 tk)
    go_ret
    rw [HR.out]
    exact ⟨_, X, hPX, rfl, N1.out, HSi.out, N2.out, N3.out, NF.out, N4.out⟩
end Go.Proofs.YtmopegpkoedgbaaGreatDoor
/- Walk: merge.Merge. -/
namespace Go.Proofs.YtmopegpkoedgbaaGreatDoor
open Go.RowKit Go.Sort

theorem endW_err (was : Dsk) (a : Option Ar) (z : Int) : (endW was a z).2.2 = z := by
  unfold endW
  split
  · rfl
  · split <;> rfl
set_option maxRecDepth 100000 in
theorem res_dc {fn : Func} {p q r : Tmp} {W : World} {b c : Nat} {c0 c1 c2 c3 c4 d0 d1 d2 : Value} {z : Int} {tmps : Array Value} (hf : fn.results = #[.cell p 25, .cell q 29, .tmp r]) (h : Bk W b 25 #[c0, c1, c2, c3, c4]) (k : Bk W c 29 #[d0, d1, d2]) (h2 : tmps.getD p undef = .pointer (some ⟨b, 0, none⟩)) (h3 : tmps.getD q undef = .pointer (some ⟨c, 0, none⟩)) (h4 : tmps.getD r undef = .int .i64 z) :
    (results fn tmps).run Tryz.prog W = .ok (.tuple #[.agg #[c0, c1, c2, c3, c4], .agg #[d0, d1, d2], .int .i64 z]) W := by
  obtain ⟨x0, x1, x2, x3, x4⟩ := five_cells h
  have y0 : W.cell? ⟨c, 0, none⟩ = some d0 := k.cell 0
  have y1 : W.cell? ⟨c, 1, none⟩ = some d1 := k.cell 1
  have y2 : W.cell? ⟨c, 2, none⟩ = some d2 := k.cell 2
  rw [Array.getD_eq_getD_getElem?] at h2 h3 h4
  simp [results, hf, go_sem, h2, h3, h4, asAddr, x0, x1, x2, x3, x4, y0, y1, y2]
/-- The closure of Merge opens a file that To makes. -/
theorem mergeTo_any (B : Fld) (h p b11 b6 lo : Nat) (to_ : ByteArray) (was : Dsk) {X : WkX} (wd room : Nat) (a : Ar) (w : World) (hlo : ∀ k, B.ok k → lo ≤ k) (hl : lo ≤ w.heap.size) (h11 : Bk w b11 69 #[.pointer (some ⟨h, 0, none⟩)]) (h6 : Bk w b6 9 #[.string to_]) (hw : WkAt w B h p was X) (ha : ArAt w B p a) (hv : InvA a) (hn : to_.size ≤ 100000000) :
    Calls Tryz.prog 58 #[.int .i64 wd, .int .u64 room, .pointer (some ⟨b11, 0, none⟩), .pointer (some ⟨b6, 0, none⟩)] w fun e w' => ∃ pa ev X', X' = X ∧ e = .returned (.tuple #[.pointer pa, ev]) ∧ ArAt w' B p (toA a to_ (wd : Nat) room).1 ∧ WkAt w' B h p was X' ∧ InvA (toA a to_ (wd : Nat) room).1 ∧ Kp a (toA a to_ (wd : Nat) room).1 ∧ AFr OTy (fl 0) w w' ∧ Below lo w w' ∧ ErrV w' ev (toA a to_ (wd : Nat) room).2.2 ∧ ((toA a to_ (wd : Nat) room).2.2 = 0 → ∃ g, lo ≤ g ∧ pa = some ⟨g, 0, none⟩ ∧ WrAt w' p g (toA a to_ (wd : Nat) room).2.1 ∧ FreshX (toA a to_ (wd : Nat) room).1 (toA a to_ (wd : Nat) room).2.1) := by
  have hto := wto_any B h p to_ (wd : Nat) room was a w hw ha hv hn
  obtain ⟨hti, htf⟩ := toA_inv hv to_ (wd : Nat) room
  have htx : (toA a to_ (wd : Nat) room).2.2 = 0 → FreshX (toA a to_ (wd : Nat) room).1 (toA a to_ (wd : Nat) room).2.1 := fun hz => by
    unfold toA at hz ⊢
    dsimp only at hz ⊢
    split at hz
    · rename_i h1; exact absurd hz h1
    · rename_i h1
      rw [if_neg h1]
      refine ⟨rfl, rfl, rfl, ?_⟩
      unfold needW at h1
      split at h1
      · exact absurd (by decide : (1 : Int) ≠ 0) h1
      · dsimp only
        omega
  obtain ⟨T, hT⟩ : ∃ T, T = toA a to_ (wd : Nat) room := ⟨_, rfl⟩
  rw [← hT] at hto hti htf htx ⊢
  have HTo := hide hto
  have c11 : w.cell? ⟨b11, 0, none⟩ = some (.pointer (some ⟨h, 0, none⟩)) := h11.cell 0
  have c6 : w.cell? ⟨b6, 0, none⟩ = some (.string to_) := h6.cell 0
  have l11 := h11.lt
  have l6 := h6.lt
  have HW := hide hw
  clear hto hT hw ha h11 h6
  go_enter Tryz.func58, Tryz.ntmps58
  go_wp2_with (go_at_call 59; refine Calls.mono HTo.out ?_; rintro e w1 ⟨pa, ev, rfl, m1, m2, m3, m4⟩; have M1 := hide m1; have M2 := hide m2; have M3 := hide m3; have M4 := hide m4; clear m1 m2 m3 m4)
  refine bodyPost_ret (v := .tuple #[.pointer pa, ev]) (by simp [results, Tryz.results58, go_sem]) rfl ?_
  exact ⟨pa, ev, X, rfl, rfl, M1.out, HW.out.afr M2.out, hti, ⟨by rw [htf], fun i hi => by unfold getF at *; rw [htf]; exact hi⟩, Fr.mono M2.out (fun k ⟨_, cs, t, z, h1, h2⟩ => ⟨Nat.zero_le _, cs, t, z, h1, .inl h2⟩), Fr.toBelowB M2.out (fun k hk => hlo k hk.1) hl, M3.out, fun hz => by
    obtain ⟨g, hg, hp, hx⟩ := M4.out hz
    exact ⟨g, Nat.le_trans hl hg, hp, hx, htx hz⟩⟩
theorem beginW_fan {d : Dsk} {b : Int} (h : beginW d b = 0) : fanW b = (b - 6, 0) ∧ 24 ≤ b ∧ b ≤ 256 := by
  unfold beginW at h
  split at h
  · rename_i h1; exact absurd h h1
  · split at h
    · cases h
    · split at h
      · cases h
      · rename_i h1 h2
        unfold fanW
        rw [if_neg h1, if_neg h2]
        exact ⟨rfl, by omega, by omega⟩
end Go.Proofs.YtmopegpkoedgbaaGreatDoor
