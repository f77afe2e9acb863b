/- Walks: bits.Writer: Add, Len, Bits. -/
import Derived.Test.YtggffiikfelbjaaBitsB
namespace Go.Proofs.Ytggffiikfelbjaa
open Go.RowKit

theorem info_u8 : (Try.prog.info? 5).map (fun i => (i.zero, i.size, i.bytes)) = some (some (.int .u8 0), 1, 1) := by kernel_rfl

/-- The bits that a Writer has gathered. -/
def wbits (out : List Nat) (last n : Nat) : List Bool := out.flatMap (natBits · 8) ++ natBits last n
theorem wbits_length (out : List Nat) (last n : Nat) : (wbits out last n).length = 8 * out.length + n := by
  unfold wbits
  rw [List.length_append, natBits_length]
  congr 1
  induction out with
  | nil => rfl
  | cons x l ih => simp [ih]; omega
/-- At p lies a Writer that has gathered the bits l; its row of bytes lies in block row (if there is one). -/
def Wr (w : World) (p : Nat) (row : Option Nat) (l : List Bool) : Prop :=
  ∃ (v : Value) (out : List Nat) (last n : Nat), Bk w p 67 #[v, .int .u64 last, .int .i64 n] ∧ w.ownsRow 0 5 1 v out.length (vby out) ∧ v.ownBlock = row ∧
    n < 8 ∧ last < 2 ^ n ∧ (∀ b ∈ out, b < 256) ∧ wbits out last n = l
/-- What a Writer at p may write. -/
def wS (p : Nat) (row : Option Nat) : Nat → Prop := fun g => g = p ∨ row = some g
/-- A row that is the one it was, or new. -/
def rowNew (w : World) (row row' : Option Nat) : Prop := row' = row ∨ ∃ g, row' = some g ∧ w.heap.size ≤ g

theorem wbits_more (out : List Nat) (last n x k : Nat) (hx : x < 2 ^ k) : wbits out (last * 2 ^ k + x) (n + k) = wbits out last n ++ natBits x k := by
  unfold wbits; rw [natBits_join _ _ _ _ hx, List.append_assoc]
theorem wbits_full (out : List Nat) (x : Nat) : wbits (out ++ [x]) 0 0 = wbits out x 8 := by
  unfold wbits; simp [natBits]
/-- The bits behind a step. -/
theorem wr_step {l : List Bool} {out : List Nat} {last n v V k K : Nat} (hb : wbits out last n = l ++ natBits (v / 2 ^ V) k) (hK : K ≤ V) :
    wbits out (last * 2 ^ K + v / 2 ^ (V - K) % 2 ^ K) (n + K) = l ++ natBits (v / 2 ^ (V - K)) (k + K) := by
  rw [wbits_more _ _ _ _ _ (Nat.mod_lt _ (Nat.two_pow_pos K)), hb, natBits_mod _ _ _ (Nat.le_refl K), natBits_append, List.append_assoc, Nat.div_div_eq_div_mul, ← Nat.pow_add, show V - K + K = V by omega]
theorem last_lt {last n x K : Nat} (hl : last < 2 ^ n) (hx : x < 2 ^ K) : last * 2 ^ K + x < 2 ^ (n + K) := by
  have : (last + 1) * 2 ^ K ≤ 2 ^ n * 2 ^ K := Nat.mul_le_mul_right _ hl
  rw [Nat.pow_add]; rw [Nat.add_mul, Nat.one_mul] at this; omega
theorem rowNew.step {w wc : World} {row row1 row2 : Option Nat} (h : rowNew w row row1) (h2 : rowNew wc row1 row2) (hs : w.heap.size ≤ wc.heap.size) : rowNew w row row2 := by
  rcases h2 with rfl | ⟨g, rfl, hg⟩
  · exact h
  · exact .inr ⟨g, rfl, by omega⟩
theorem wS_new {w : World} {p : Nat} {row row1 : Option Nat} (h : rowNew w row row1) : ∀ g, row1 = some g → wS p row g ∨ w.heap.size ≤ g := by
  rintro g rfl
  rcases h with h | ⟨g', h, hg⟩
  · exact .inl (.inr h.symm)
  · exact .inr (by simp at h; omega)

/-- What a byte that is full leaves. -/
theorem wr_full {w wc w1 : World} {p g1 cap1 : Nat} {row row1 : Option Nat} {v1 : Value} {out : List Nat} {L : Nat} {l : List Bool} {cs : Array Value} {X : Obj}
    (hb : Bk wc p 67 cs) (hcs : cs.size = 3) (ho : wc.ownsRow 0 5 1 v1 out.length (vby out)) (hf : Fr (wS p row) w wc) (hr : v1.ownBlock = row1) (hrn : rowNew w row row1)
    (hgr : ((wc.alloc X).drew).grownBy w1 v1.ownBlock) (hown : w1.ownsRow 0 5 1 (.slice (some ⟨g1, 0, none⟩) (out.length + 1) cap1) (out.length + 1) (vby out ++ [.int .u8 (L : Nat)]))
    (hat : v1.ownBlock = some g1 ∨ g1 = wc.heap.size + 1) (hL : L < 256) (hout : ∀ b ∈ out, b < 256) (hl : wbits out L 8 = l) (u1 u2 : Value) (e1 : u1 = .int .u64 0) (e2 : u2 = .int .i64 0) :
    Wr (((w1.setCell ⟨p, 0, none⟩ (.slice (some ⟨g1, 0, none⟩) (out.length + 1) cap1)).setCell ⟨p, 1, none⟩ u1).setCell ⟨p, 2, none⟩ u2) p (some g1) l ∧
    rowNew w row (some g1) ∧ Fr (wS p row) w (((w1.setCell ⟨p, 0, none⟩ (.slice (some ⟨g1, 0, none⟩) (out.length + 1) cap1)).setCell ⟨p, 1, none⟩ u1).setCell ⟨p, 2, none⟩ u2) := by
  subst e1 e2 hr
  have hb1 : Bk w1 p 67 cs := ((hb.alloc _).drew).grown hgr (own_ne ho hb (by decide))
  have hne : some p ≠ (Value.slice (some ⟨g1, 0, none⟩) (out.length + 1) cap1).ownBlock := own_ne hown hb1 (by decide)
  have hrn2 : rowNew w row (some g1) := hrn.step (wc := wc) (by rcases hat with h | h; exact .inl h.symm; exact .inr ⟨g1, rfl, by omega⟩) hf.size
  refine ⟨⟨.slice (some ⟨g1, 0, none⟩) (out.length + 1) cap1, out ++ [L], 0, 0, ?_, ?_, rfl, by omega, by omega, ?_, by rw [wbits_full]; exact hl⟩, hrn2, ?_⟩
  · have := ((hb1.set_ 0 (.slice (some ⟨g1, 0, none⟩) (out.length + 1) cap1)).set_ 1 (.int .u64 0)).set_ 2 (.int .i64 0)
    obtain ⟨cs⟩ := cs
    match cs, hcs with
    | [a, b, c], _ => simpa using this
  · have e : (out ++ [L]).length = out.length + 1 := by simp
    rw [e]
    have := own_set (p := ⟨p, 2, none⟩) (own_set (p := ⟨p, 1, none⟩) (own_set (p := ⟨p, 0, none⟩) hown (fun h => hne h.symm) (.slice (some ⟨g1, 0, none⟩) (out.length + 1) cap1)) (fun h => hne h.symm) (.int .u64 0)) (fun h => hne h.symm) (.int .i64 0)
    simpa [vby] using this
  · intro b hb
    rcases List.mem_append.1 hb with h | h
    · exact hout b h
    · simp at h; omega
  · have h1 : Fr (wS p row) w w1 := ((hf.alloc X).drew).trans (Fr.grown (S := fun g => v1.ownBlock = some g) hgr (fun g hg => hg)) (fun g hg => wS_new hrn g hg)
    exact ((h1.setCell (.inl (.inl rfl)) _).setCell (.inl (.inl rfl)) _).setCell (.inl (.inl rfl)) _

set_option maxRecDepth 100000 in
set_option maxHeartbeats 1000000 in
theorem add_any (p : Nat) (row : Option Nat) (l : List Bool) (v wd : Nat) (w : World) (hv : v < 18446744073709551616) (hw : wd ≤ 64) (h : Wr w p row l) (hl : l.length + wd ≤ 1000000000000) :
    Calls Try.prog 40 #[.pointer (some ⟨p, 0, none⟩), .int .u64 v, .int .i64 wd] w fun e w' => e = .returned (.tuple #[]) ∧ ∃ row', Wr w' p row' (l ++ natBits v wd) ∧ rowNew w row row' ∧ Fr (wS p row) w w' := by
  obtain ⟨i0, hi, hz0, hz1, hz2⟩ := info_parts info_u8
  go_enter Try.func40, Try.ntmps40
  go_wp2
  go_loopw [2] (fun x wr => ∃ k row1, k ≤ wd ∧ x = .int .i64 ((wd - k : Nat) : Int) ∧ Wr wr p row1 (l ++ natBits (v / 2 ^ (wd - k)) k) ∧ rowNew w row row1 ∧ Fr (wS p row) w wr) (fun x _ => (intOf x).toNat)
  case atStart => exact ⟨0, row, by omega, rfl, by simpa [natBits] using h, .inl rfl, Fr.refl _ _⟩
  case round =>
    obtain ⟨k, row1, hk, rfl, hwr, hrn, hfr⟩ := hrel
    obtain ⟨V, hV⟩ : ∃ V, V = wd - k := ⟨_, rfl⟩
    rw [← hV] at hwr ⊢
    have HV := hide hV
    have f2 : V ≤ 64 := by omega
    clear hV
    have hwr0 := hide hwr
    obtain ⟨v1, out, last, n, hbk, hown, hrow, hn8, hlast, hout, hbits⟩ := hwr
    have c0 := hbk.cell 0
    have c1 := hbk.cell 1
    have c2 := hbk.cell 2
    have z0 := hbk.free 0
    have z1 := hbk.free 1
    have z2 := hbk.free 2
    simp at c0 c1 c2
    have hol : out.length ≤ 200000000000 := by have := wbits_length out last n; rw [hbits] at this; simp at this; omega
    have HB := hide hbits
    have HR := hide hrow
    have HL := hide hlast
    clear hbits hrow hlast
    by_cases h : 0 < V
    · go_upto_region 1 with (fail)
      go_cut [6] (fun s6 wx => ∃ K : Nat, K ≤ V ∧ K ≤ 8 - n ∧ 0 < K ∧ (K = V ∨ K = 8 - n) ∧ s6 = .int .i64 K ∧ wr = wx)
      case first =>
        by_cases g : V < 8 - n
        · go_wp2
          all_goals go_meet
          all_goals first
            | exact ⟨V, by omega, by omega, h, .inl rfl, rfl, rfl⟩
            | exact ⟨8 - n, by omega, by omega, by omega, .inr rfl, by go_num, rfl⟩
        · go_wp2
          all_goals go_meet
          all_goals first
            | exact ⟨V, by omega, by omega, h, .inl rfl, rfl, rfl⟩
            | exact ⟨8 - n, by omega, by omega, by omega, .inr rfl, by go_num, rfl⟩
      case rest =>
      obtain ⟨K, hKV, hKn, hK0, hKe, rfl, rfl⟩ := hcut
      have e1 : IntKind.i64.wrap ((V : Int) - (K : Int)) = (V : Int) - (K : Int) := IntWalk.i64_in _ ⟨by omega, by omega⟩
      have e2 : (0 : Int) ≤ (V : Int) - (K : Int) := by omega
      go_wp2
      go_region
      go_wp2
      go_cut [] (fun wx => Bk wx p 67 #[v1, .int .u64 ((last * 2 ^ K + v / 2 ^ (V - K) % 2 ^ K : Nat) : Int), .int .i64 ((n + K : Nat) : Int)] ∧ wx.ownsRow 0 5 1 v1 out.length (vby out) ∧ Fr (wS p row) w wx ∧ wr.heap.size ≤ wx.heap.size)
      case first =>
        go_region
        go_wp2
        go_meet
        have eL : bits .or .u64 (IntKind.u64.wrap ((last : Int) * 2 ^ K)) (bits .and .u64 ((v : Int) / 2 ^ (V - K)) (IntKind.u64.wrap (IntKind.u64.wrap (2 ^ K) - 1))) = ((last * 2 ^ K + v / 2 ^ (V - K) % 2 ^ K : Nat) : Int) := by
          have e : (v : Int) / 2 ^ (V - K) = ((v / 2 ^ (V - K) : Nat) : Int) := by rw [Int.natCast_ediv, Int.natCast_pow]; rfl
          have hd := Nat.div_le_self v (2 ^ (V - K))
          have hm := Nat.mod_lt (v / 2 ^ (V - K)) (Nat.two_pow_pos K)
          have h8 : 2 ^ (n + K) ≤ 2 ^ 8 := Nat.pow_le_pow_right (by omega) (by omega)
          have := last_lt HL.out hm
          rw [e, mask_nat _ _ (by omega) (by omega), shl_or _ _ _ hm (by omega)]
        rw [eL]
        have hnp : v1.ownBlock ≠ some p := fun h => own_ne hown hbk (by decide) h.symm
        refine ⟨Bk.drew (Bk.drew (by simpa using ((hbk.set_ 1 _).set_ 2 _))), own_set (p := ⟨p, 2, none⟩) (own_set (p := ⟨p, 1, none⟩) hown hnp _) hnp _, (((hfr.setCell (.inl (.inl rfl)) _).setCell (.inl (.inl rfl)) _).drew).drew, by simp [World.setCell]⟩
      case rest =>
        obtain ⟨hb, ho, hf, hsz⟩ := hcut
        have d0 := hb.cell 0
        have d1 := hb.cell 1
        have d2 := hb.cell 2
        have y0 := hb.free 0
        have y1 := hb.free 1
        have y2 := hb.free 2
        simp at d0 d1 d2
        clear c0 c1 c2 z0 z1 z2
        by_cases hfull : n + K = 8
        · have hdX : ∀ X : Obj, (wc.alloc X).cell? ⟨p, 0, none⟩ = some v1 := fun X => (World.cell?_alloc_lt wc X ⟨p, 0, none⟩ hb.lt).trans d0
          have hoX : ∀ X : Obj, Hid ((wc.alloc X).drew.ownsRow 0 5 1 v1 out.length (vby out)) := fun X => ho.alloc X
          have hcX : ∀ (u : Value) (t : TypeId), Hid (∀ j x, [u][j]? = some x → (wc.alloc (.cells #[u] t)).drew.cell? ((⟨wc.heap.size, 0, none⟩ : Addr).add j) = some x) := fun u t => cell_one_new wc u t
          go_wp2
          go_region_law ((refine step_append_lies _ rfl (.tmp 60) (.tmp 66) 65 rfl 0 5 i0 (.int .u8 0) 1 1 Try.underlying65 hi hz0 hz1 hz2 rfl (by omega) v1 out.length (vby out) (by simp [Act.eval]) (hoX _).out ⟨wc.heap.size, 0, none⟩ 1 1 [_] (by simp [Act.eval]) rfl (hcX _ _).out (by intro u hu; simp at hu; subst hu; rfl) (by omega) (by unfold maxLen; omega) (by omega) (Nat.zero_le _) (wc.heap.size + 1) (by simp) ?_; intro g1 cap1 w1 hown1 hgr1 hat1 hlt1; have hb1 := ((hb.alloc _).drew).grown hgr1 (own_ne ho hb (by decide)); have q0 := hb1.cell 0; have q1 := hb1.cell 1; have q2 := hb1.cell 2; have x0 := hb1.free 0; have x1 := hb1.free 1; have x2 := hb1.free 2; simp at q0 q1 q2))
          go_wp2
          all_goals
            have hm := Nat.mod_lt (v / 2 ^ (V - K)) (Nat.two_pow_pos K)
            have hlt := last_lt HL.out hm
            rw [hfull] at hlt
            have eU : IntKind.u8.wrap ((last : Int) * 2 ^ K + (v : Int) / 2 ^ (V - K) % 2 ^ K) = ((last * 2 ^ K + v / 2 ^ (V - K) % 2 ^ K : Nat) : Int) := by
              have e : (last : Int) * 2 ^ K + (v : Int) / 2 ^ (V - K) % 2 ^ K = ((last * 2 ^ K + v / 2 ^ (V - K) % 2 ^ K : Nat) : Int) := by
                rw [Int.natCast_add, Int.natCast_mul, Int.natCast_emod, Int.natCast_ediv, Int.natCast_pow, Int.natCast_pow]; rfl
              rw [e]; exact IntWalk.u8_in _ ⟨by omega, by omega⟩
            rw [eU] at hown1 hgr1
            obtain ⟨r1, r2, r3⟩ := wr_full (l := l ++ natBits (v / 2 ^ (V - K)) (k + K)) hb rfl ho hf HR.out hrn hgr1 hown1 hat1 hlt hout (by rw [← wr_step HB.out hKV, hfull]) (.int .u64 0) (.int .i64 0) rfl rfl
            go_roundw
            case rel => exact ⟨k + K, some g1, by have := HV.out; omega, by have := HV.out; go_num, by rw [show wd - (k + K) = V - K by have := HV.out; omega]; exact r1, r2, r3⟩
            case measure => simp [intOf]; omega
        · go_wp2
          go_roundw
          case rel =>
            have hm := Nat.mod_lt (v / 2 ^ (V - K)) (Nat.two_pow_pos K)
            exact ⟨k + K, row1, by have := HV.out; omega, by have := HV.out; go_num, ⟨v1, out, _, _, hb, ho, HR.out, by omega, last_lt HL.out hm, hout, by rw [wr_step HB.out hKV, show wd - (k + K) = V - K by have := HV.out; omega]⟩, hrn, hf⟩
          case measure => simp [intOf]; omega
    · go_wp2
      go_end0
      exact ⟨rfl, row1, by have := hwr0.out; have e := HV.out; rw [show V = 0 by omega, show k = wd by omega] at this; simpa using this, hrn, hfr⟩
end Go.Proofs.Ytggffiikfelbjaa
