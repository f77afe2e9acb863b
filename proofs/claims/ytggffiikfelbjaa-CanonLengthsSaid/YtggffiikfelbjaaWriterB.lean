/- Walks: bits.Writer: Len, Bits, Copy; bits.Cut. -/
import Derived.Test.YtggffiikfelbjaaWriter
namespace Go.Proofs.Ytggffiikfelbjaa
open Go.RowKit

theorem Wr.fr {w w' : World} {p : Nat} {row : Option Nat} {l : List Bool} {S : Nat → Prop} (h : Wr w p row l) (hf : Fr S w w') (hp : ¬ S p) (hr : ∀ g, row = some g → ¬ S g) : Wr w' p row l := by
  obtain ⟨v, out, last, n, hb, ho, hrow, r⟩ := h
  exact ⟨v, out, last, n, hb.fr hf hp, own_fr ho hf (fun g hg => hr g (by rw [← hrow]; exact hg)), hrow, r⟩
theorem Wr.lt {w : World} {p : Nat} {row : Option Nat} {l : List Bool} (h : Wr w p row l) : p < w.heap.size ∧ ∀ g, row = some g → g < w.heap.size := by
  obtain ⟨v, out, last, n, hb, ho, hrow, r⟩ := h
  exact ⟨hb.lt, fun g hg => own_lt ho g (by rw [hrow]; exact hg)⟩
/-- A Writer stays as it is over whatever leaves what there was. -/
theorem Wr.below {w w' : World} {p : Nat} {row : Option Nat} {l : List Bool} (h : Wr w p row l) (hb : Below w.heap.size w w') : Wr w' p row l :=
  h.fr (Fr.below hb (fun _ => False)) (fun h => h) (fun _ _ h => h)
theorem Wr.drewN {w : World} {p : Nat} {row : Option Nat} {l : List Bool} (h : Wr w p row l) (n : Nat) : Wr (w.drewN n) p row l := h
theorem Wr.new (w : World) : Wr (w.alloc (.cells #[.slice none 0 0, .int .u64 0, .int .i64 0] 67)) w.heap.size none [] :=
  ⟨.slice none 0 0, [], 0, 0, Bk.new _ _ _, World.ownsRow_nil _ _ _ _, rfl, by omega, by omega, by simp, rfl⟩

set_option maxRecDepth 100000 in
set_option maxHeartbeats 1000000 in
theorem len_any (p : Nat) (row : Option Nat) (l : List Bool) (w : World) (h : Wr w p row l) (hl : l.length ≤ 1000000000000) :
    Calls Try.prog 39 #[.pointer (some ⟨p, 0, none⟩)] w fun e w' => e = .returned (.int .i64 (l.length : Nat)) ∧ ∃ n, w' = w.drewN n := by
  obtain ⟨v, out, last, n, hb, ho, hrow, hn, _, _, hbits⟩ := h
  have hlen := wbits_length out last n
  rw [hbits] at hlen
  obtain ⟨A, c, hv⟩ : ∃ A c, v = .slice A out.length c := by
    rcases ho.2 with ⟨hv, hn⟩ | ⟨g, cap, cur, hv, _⟩
    · exact ⟨none, 0, by rw [hn]; exact hv⟩
    · exact ⟨_, cap, hv⟩
  subst hv
  have c0 := hb.cell 0
  have c2 := hb.cell 2
  simp at c0 c2
  have HL := hide hlen
  have e1 : IntKind.i64.wrap ((out.length : Int) * 8) = (out.length : Int) * 8 := IntWalk.i64_in _ ⟨by omega, by omega⟩
  have e2 : IntKind.i64.wrap ((out.length : Int) * 8 + (n : Int)) = (out.length : Int) * 8 + (n : Int) := IntWalk.i64_in _ ⟨by omega, by omega⟩
  clear hlen hbits ho hrow hb
  go_enter Try.func39, Try.ntmps39
  go_wp2
  go_quiet (fail)
  go_wp2
  go_ret
  exact ⟨ret_int (by rw [HL.out]; push_cast; omega), _, rfl⟩

theorem flat_get (out : List Nat) : ∀ (i : Nat), i < 8 * out.length → (out.flatMap (natBits · 8))[i]? = some (out.getD (i / 8) 0 / 2 ^ (7 - i % 8) % 2 == 1) := by
  induction out with
  | nil => intro i h; simp at h
  | cons x out ih =>
    intro i h
    rw [List.flatMap_cons]
    by_cases h8 : i < 8
    · rw [List.getElem?_append_left (by simpa using h8), natBits_get _ _ _ h8]
      rw [show i / 8 = 0 by omega, show i % 8 = i by omega]
      simp
    · rw [List.getElem?_append_right (by simp; omega), natBits_length, ih (i - 8) (by simp at h; omega)]
      rw [show i / 8 = (i - 8) / 8 + 1 by omega, show i % 8 = (i - 8) % 8 by omega]
      simp
theorem natBits_zero (k : Nat) : natBits 0 k = List.replicate k false := by
  induction k with
  | zero => rfl
  | succ k ih => rw [natBits, ih, List.replicate_succ]; simp
/-- The bytes of a Writer's bits, the last one filled up by 0. -/
theorem bs_of {out' : List Nat} {l : List Bool} (hout : ∀ b ∈ out', b < 256) (k : Nat) (he : out'.flatMap (natBits · 8) = l ++ List.replicate k false) (hl : l.length ≤ 1048576) (hs : out'.length = (l.length + 7) / 8) :
    Bs (strOf out') l.length l := by
  refine Bs.mk hl (by rw [strOf_size]; exact hs) fun i hi => ?_
  rw [strOf_size] at hi
  have h1 := flat_get out' i hi
  unfold bitAt
  rw [strOf_byt _ hout]
  rw [he] at h1
  by_cases hil : i < l.length
  · rw [List.getElem?_append_left hil] at h1
    have e : l.getD i false = (l[i]?).getD false := List.getD_eq_getElem?_getD
    rw [e, h1]; rfl
  · rw [List.getElem?_append_right (by omega)] at h1
    have e : l.getD i false = false := by rw [List.getD_eq_getElem?_getD, List.getElem?_eq_none (by omega)]; rfl
    rw [e]
    have h2 : i - l.length < k := by
      rcases Nat.lt_or_ge (i - l.length) k with h | h
      · exact h
      · rw [List.getElem?_eq_none (by simpa using h)] at h1; cases h1
    rw [List.getElem?_replicate, if_pos h2] at h1
    simpa using h1
theorem last_full {last n : Nat} (hl : last < 2 ^ n) (hn : n ≤ 8) : last * 2 ^ (8 - n) < 256 := by
  have : (last + 1) * 2 ^ (8 - n) ≤ 2 ^ n * 2 ^ (8 - n) := Nat.mul_le_mul_right _ hl
  rw [← Nat.pow_add, show n + (8 - n) = 8 by omega, Nat.add_mul, Nat.one_mul] at this
  have := Nat.two_pow_pos (8 - n)
  omega
theorem bs_part {out : List Nat} {last n : Nat} {l : List Bool} (hout : ∀ b ∈ out, b < 256) (hn : n < 8) (h0 : 0 < n) (hlast : last < 2 ^ n) (hb : wbits out last n = l) (hl : l.length ≤ 1048576) :
    Bs (strOf (out ++ [last * 2 ^ (8 - n)])) l.length l := by
  have hf := last_full hlast (by omega)
  have hlen := wbits_length out last n
  rw [hb] at hlen
  refine bs_of (fun b h => ?_) (8 - n) ?_ hl (by simp; omega)
  · rcases List.mem_append.1 h with h | h
    · exact hout b h
    · simp at h; omega
  · have e := natBits_join last 0 n (8 - n) (Nat.two_pow_pos _)
    rw [Nat.add_zero, show n + (8 - n) = 8 by omega, natBits_zero] at e
    rw [← hb, List.flatMap_append]
    simp only [List.flatMap_cons, List.flatMap_nil, List.append_nil, e, wbits, List.append_assoc]
theorem bs_whole {out : List Nat} {last : Nat} {l : List Bool} (hout : ∀ b ∈ out, b < 256) (hb : wbits out last 0 = l) (hl : l.length ≤ 1048576) : Bs (strOf out) l.length l := by
  have hlen := wbits_length out last 0
  rw [hb] at hlen
  exact bs_of hout 0 (by rw [← hb]; simp [wbits, natBits]) hl (by omega)

set_option maxRecDepth 100000 in
set_option maxHeartbeats 2000000 in
theorem wbits_any (p : Nat) (row : Option Nat) (l : List Bool) (w : World) (h : Wr w p row l) (hl : l.length ≤ 1048576) :
    Calls Try.prog 42 #[.pointer (some ⟨p, 0, none⟩)] w fun e w' => ∃ s, e = .returned (.agg #[.string s, .int .i64 (l.length : Nat)]) ∧ Bs s l.length l ∧ Below w.heap.size w w' := by
  have hW := hide h
  obtain ⟨v, out, last, n, hb, ho, hrow, hn, hlast, hout, hbits⟩ := h
  have hlen := wbits_length out last n
  rw [hbits] at hlen
  obtain ⟨A, c, hv⟩ : ∃ A c, v = .slice A out.length c := by
    rcases ho.2 with ⟨hv, hn⟩ | ⟨g, cap, cur, hv, _⟩
    · exact ⟨none, 0, by rw [hn]; exact hv⟩
    · exact ⟨_, cap, hv⟩
  subst hv
  have c0 := hb.cell 0
  have c1 := hb.cell 1
  have c2 := hb.cell 2
  simp at c0 c1 c2
  have HL := hide hlen
  have HB := hide hbits
  have HR := hide hrow
  have HLa := hide hlast
  have f1 : out.length ≤ 1000000 := by omega
  have hpX : p < w.heap.size := hb.lt
  clear hlen hbits hrow hlast
  obtain ⟨i0, hi, hz0, hz1, hz2⟩ := info_parts info_u8
  have hrd := own_rd ho
  have hcap : out.length ≤ c := by
    rcases ho.2 with ⟨hv, hn⟩ | ⟨g, cap, cur, hv, _, _, hc, _⟩
    · omega
    · simp only [Value.slice.injEq] at hv; omega
  go_enter Try.func42, Try.ntmps42
  go_upto_if 12 with (fail)
  go_cut [3] (fun s3 wx => ∃ A' c' out', s3 = .slice A' out'.length c' ∧ Hid (∃ B, Rd wx B A' (vby out')) ∧ Bs (strOf out') l.length l ∧ Bk wx w.heap.size 35 #[.string ⟨#[]⟩, .int .i64 0] ∧ Below w.heap.size w wx)
  case first =>
    by_cases h0 : 0 < n
    · have e1 : IntKind.i64.wrap (8 - (n : Int)) = 8 - (n : Int) := IntWalk.i64_in _ ⟨by omega, by omega⟩
      have e2 : (0 : Int) ≤ 8 - (n : Int) := by omega
      have hvl : Hid ((vby out).length = out.length * 1) := by show _ = _; simp
      have hone : ∀ x : Int, ∀ u ∈ [Value.int .u8 x], u.oneCell' = true := fun x u hu => by simp at hu; subst hu; rfl
      have hml : Hid (out.length + 1 ≤ maxLen) := by show _ ≤ _; unfold maxLen; omega
      have hml2 : Hid ((out.length + 1) * 1 ≤ 140737488355328) := by show _ ≤ _; omega
      have hnone : Hid (A = none → out.length = 0 ∧ out.length = 0) := fun hA => by
        rcases Nat.eq_zero_or_pos out.length with h | h
        · exact ⟨h, h⟩
        · obtain ⟨b, o, hA', _⟩ := hrd 0 (.int .u8 (out[0] : Nat)) (by simp [vby, h])
          rw [hA] at hA'; cases hA'
      have holds : ∀ X Y : Obj, Hid (∀ b, A = some b → ∀ j u, (vby out)[j]? = some u → ((w.alloc X).alloc Y).drew.cell? (b.add j) = some u) := fun X Y b hA j u hu => by
        obtain ⟨b', o, hA', hb', hc'⟩ := hrd j u hu
        rw [hA] at hA'; cases hA'
        rw [Addr.add_lit]
        exact (World.cell?_alloc_lt _ _ _ (by simp; omega)).trans ((World.cell?_alloc_lt _ _ _ hb').trans hc')
      have hnew : ∀ (X : Obj) (u : Value) (t : TypeId), Hid (∀ j x, [u][j]? = some x → ((w.alloc X).alloc (.cells #[u] t)).drew.cell? ((⟨w.heap.size + 1, 0, none⟩ : Addr).add j) = some x) := fun X u t => by
        have := cell_one_new (w.alloc X) u t
        rw [show (w.alloc X).heap.size = w.heap.size + 1 by simp] at this
        exact this
      go_wp2
      go_region_law ((refine step_append_grows rfl (.tmp 18) (.tmp 30) 65 rfl 5 i0 (.int .u8 0) 1 1 Try.underlying65 hi hz0 hz1 hz2 rfl (by decide) A out.length out.length (vby out) rfl hnone.out hvl.out (holds _ _).out ⟨w.heap.size + 1, 0, none⟩ 1 1 [_] rfl rfl (hnew _ _ _).out (hone _) (Nat.lt_succ_self _) (hml.out) (hml2.out) ?_; intro v2 w2 hown2 hgr2))
      all_goals
        have hbe2 : Below w.heap.size w w2 := (((Below.refl _ _).alloc (Nat.le_refl _) _).alloc (by simp) _).drew.grown hgr2 (by simp; omega) (by simp)
        have hb2 : Bk w2 w.heap.size 35 #[.string ⟨#[]⟩, .int .i64 0] := ((((Bk.new w _ _).alloc _)).drew).grown hgr2 (by simp)
        have hlf := last_full HLa.out (by omega)
        have eU : IntKind.u8.wrap (IntKind.u64.wrap ((last : Int) * 2 ^ (8 - n))) = ((last * 2 ^ (8 - n) : Nat) : Int) := by
          have e : (last : Int) * 2 ^ (8 - n) = ((last * 2 ^ (8 - n) : Nat) : Int) := by rw [Int.natCast_mul, Int.natCast_pow]; rfl
          rw [e, u64n _ (by omega)]; exact IntWalk.u8_in _ ⟨by omega, by omega⟩
        rw [eU] at hown2
        obtain ⟨g2, cp2, rfl, hg2, hg2'⟩ := hown2.form (by omega)
        have hrd2 := own_rd hown2
        clear hgr2
        go_wp2
        go_meet
        exact ⟨some ⟨g2, 0, none⟩, cp2, out ++ [last * 2 ^ (8 - n)], by simp, ⟨_, by rw [show vby (out ++ [last * 2 ^ (8 - n)]) = vby out ++ [.int .u8 ((last * 2 ^ (8 - n) : Nat) : Int)] by simp [vby]]; exact hrd2⟩, bs_part hout hn h0 HLa.out HB.out hl, hb2, hbe2⟩
    · go_wp2
      go_meet
      exact ⟨A, c, out, rfl, ⟨_, hrd.alloc (Nat.le_refl _) _⟩, bs_whole (last := last) hout (by have := HB.out; rwa [show n = 0 by omega] at this) hl, Bk.new _ _ _, by go_grown⟩
  case rest =>
    obtain ⟨A', c', out', rfl, hrd', hbs, hbk, hbe⟩ := hcut
    obtain ⟨B', hrd'⟩ := hrd'.out
    have cv : ∀ n, (convert 65 9 (.slice A' out'.length c')).run Try.prog (wc.drewN n) = .ok (.string (strOf out')) (wc.drewN n) := fun n =>
      run_conv Try.prog (wc.drewN n) 65 5 Try.underlying65 Try.underlying5 9 Try.underlying9 (hrd'.drewN n) c'
    have cv0 : (convert 65 9 (.slice A' out'.length c')).run Try.prog wc.drew = .ok (.string (strOf out')) wc.drew := cv 1
    have hW1 : ∀ n, Wr (wc.drewN n) p row l := fun n => (hW.out.below hbe).drewN n
    have cl : ∀ n, Calls Try.prog 39 #[.pointer (some ⟨p, 0, none⟩)] (wc.drewN n) fun e w' => e = .returned (.int .i64 (l.length : Nat)) ∧ ∃ m, w' = (wc.drewN n).drewN m := fun n => len_any p row l (wc.drewN n) (hW1 n) (by omega)
    have d0 := hbk.cell 0
    have d1 := hbk.cell 1
    have z0 := hbk.free 0
    have z1 := hbk.free 1
    simp at d0 d1
    clear c0 c1 c2 hW1
    go_wp2
    go_region_with (go_at_call 39; refine (cl 1).mono ?_; rintro e w' ⟨rfl, m, rfl⟩)
    all_goals
      have k := ((hbk.drewN (1 + m)).set_ 0 (.string (strOf out'))).set_ 1 (.int .i64 (l.length : Nat))
      have k0 := k.cell 0
      have k1 := k.cell 1
      simp at k0 k1
      go_wp2
      refine bodyPost_ret (v := .agg #[.string (strOf out'), .int .i64 (l.length : Nat)]) (by simp [results, Try.results42, go_sem, k0, k1]) rfl ?_
      exact ⟨strOf out', rfl, hbs, ((below_drewN hbe _).setCell (Nat.le_refl _) _).setCell (Nat.le_refl _) _⟩
end Go.Proofs.Ytggffiikfelbjaa
