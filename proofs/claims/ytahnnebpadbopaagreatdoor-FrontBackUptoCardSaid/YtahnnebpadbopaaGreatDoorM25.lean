/- Lemmas for the row: FrY. -/
import Derived.Test.YtahnnebpadbopaaGreatDoorM22
import Derived.Shelf.Strings.SlTrimAscii
set_option linter.unusedVariables false
/- Walks: (*front.reader).keep. -/
namespace Go.Proofs.YtahnnebpadbopaaGreatDoor
open Go.RowKit

theorem info_bool : (Tryz.prog.info? 4).map (fun i => (i.zero, i.size, i.bytes)) = some (some (.bool false), 1, 1) := by kernel_rfl
def digT : ByteArray := ⟨#[48, 49]⟩
def kpt (l : List UInt8) : List Bool := l.map fun c => decide (c = 49)
def dg01 (l : List UInt8) : Bool := l.all fun c => decide (c = 48) || decide (c = 49)
theorem drop_nil (p : UInt8 → Bool) (l : List UInt8) : l.dropWhile p = [] ↔ l.all p = true := by
  induction l with
  | nil => simp
  | cons c l ih =>
    rw [List.dropWhile_cons, List.all_cons]
    by_cases h : p c = true
    · rw [if_pos h, h, Bool.true_and]; exact ih
    · rw [if_neg h]; simp [h]
theorem drop_all (p : UInt8 → Bool) (l : List UInt8) : (∀ c ∈ l.dropWhile p, p c = true) ↔ l.all p = true := by
  constructor
  · intro h
    refine (drop_nil p l).1 ?_
    cases hd : l.dropWhile p with
    | nil => rfl
    | cons c t =>
      have h1 := h c (by rw [hd]; simp)
      have h2 := List.head_dropWhile_not p (l := l) (by rw [hd]; simp)
      simp only [hd, List.head_cons] at h2
      rw [h1] at h2; cases h2
  · intro h c hc
    rw [(drop_nil p l).2 h] at hc
    cases hc
theorem trim_dg (l : List UInt8) : (Lib.trimS l digT.data.toList).isEmpty = dg01 l := by
  have hp : (fun c : UInt8 => digT.data.toList.contains c) = fun c => decide (c = 48) || decide (c = 49) := by
    funext c
    show ([48, 49] : List UInt8).contains c = _
    by_cases h1 : c = 48
    · subst h1; rfl
    · by_cases h2 : c = 49
      · subst h2; rfl
      · simp [h1, h2]
  unfold Lib.trimS Lib.trimLeftS Lib.trimRightS dg01
  rw [hp]
  generalize (fun c : UInt8 => decide (c = 48) || decide (c = 49)) = p
  have e1 : ((l.reverse.dropWhile p).reverse.dropWhile p = []) ↔ l.all p = true := by
    rw [drop_nil, List.all_reverse, ← List.all_reverse (l := l), ← drop_all p l.reverse, List.all_eq_true]
  cases hd : (l.reverse.dropWhile p).reverse.dropWhile p with
  | nil => exact (e1.1 hd).symm
  | cons c t =>
    have : ¬ l.all p = true := fun h => by rw [e1.2 h] at hd; cases hd
    simp only [Bool.not_eq_true] at this
    rw [this]; rfl
theorem trim01 (s : ByteArray) (w : World) (hs : s.size ≤ 100000000) : Calls Tryz.prog 85 #[.string s, .string digT] w fun e w' => (∃ t, e = .returned (.string t) ∧ (t.size = 0 ↔ dg01 (bl s) = true)) ∧ Below w.heap.size w w' := by
  refine Calls.mono (Any.strings_Trim_laid Tryz.lays160 (by kernel_rfl) s digT w (by omega) (by decide) (ascii_of_all (by decide))) ?_
  rintro e w' ⟨rfl, hb⟩
  refine ⟨⟨_, rfl, ?_⟩, hb⟩
  rw [← trim_dg]
  show (Lib.trimS (bl s) digT.data.toList).toArray.size = 0 ↔ _
  rw [List.size_toArray]
  cases Lib.trimS (bl s) digT.data.toList <;> simp
set_option maxRecDepth 100000 in
set_option maxHeartbeats 8000000 in
theorem rkeep_any (g : Nat) (r : List UInt8 × Bool) (w : World) (h : LrAt w g r) (hs : r.1.length ≤ 100000000) :
    Calls Tryz.prog 58 #[.pointer (some ⟨g, 0, none⟩)] w fun e w' => (∃ kv, e = .returned kv ∧ KpO w' w.heap.size kv (rdKeep r).1) ∧ LrAt w' g ([], (rdKeep r).2) ∧ Fr (fun k => k = g) w w' := by
  have hg0 : g < w.heap.size := Bk.lt h
  by_cases h0 : r.1 = []
  · obtain ⟨s, ok⟩ := r
    dsimp only at h0
    subst h0
    have h' : Bk w g 115 #[.string ⟨#[]⟩, .bool ok] := h
    obtain ⟨c0, c1⟩ := two_cells h'
    have hk : rdKeep ([], ok) = ([], ok) := rfl
    rw [hk]
    have H := hide h
    clear h h' hk
    go_enter Tryz.func58, Tryz.ntmps58
    go_wp2_with fail
    go_ret
    exact ⟨⟨_, rfl, World.ownsRow_nil _ _ _ _⟩, H.out, Fr.refl _ _⟩
  · have hsp := space_any g r w h
    have hle := space_len r
    have hrk : rdKeep r = (kpt (rdSpace r).1, (rdSpace r).2 && (decide ((rdSpace r).1 ≠ []) && dg01 (rdSpace r).1)) := by unfold rdKeep; rw [if_neg h0]; rfl
    rw [hrk]
    obtain ⟨s0, ok0⟩ := r
    have h' : Bk w g 115 #[.string (blB s0), .bool ok0] := h
    obtain ⟨c0, c1⟩ := two_cells h'
    have hne : (blB s0).toList.isEmpty = false := by rw [isEmpty_str, blB_size]; cases s0 with | nil => exact absurd rfl h0 | cons a t => rfl
    obtain ⟨S0, hS0⟩ : ∃ S, S = blB s0 := ⟨_, rfl⟩
    obtain ⟨q, hq⟩ : ∃ q, q = rdSpace (s0, ok0) := ⟨_, rfl⟩
    rw [← hq] at hsp hle ⊢
    obtain ⟨s, ok⟩ := q
    rw [← hS0] at c0 hne
    dsimp only at hle hs ⊢
    have HSp := hide hsp
    obtain ⟨S, hS⟩ : ∃ S, S = blB s := ⟨_, rfl⟩
    have hsz : S.size = s.length := by rw [hS, blB_size]
    have HS := hide hS
    clear hsp hrk hq h h' hS0 hS
    obtain ⟨i0, hi, hz0, hz1, hz2⟩ := info_parts info_bool
    go_enter Tryz.func58, Tryz.ntmps58
    go_wp2_with (go_at_call 83; refine Calls.mono HSp.out ?_; rintro e w1 ⟨rfl, hl, hf⟩; have hl' : Bk w1 g 115 #[.string S, .bool ok] := (by rw [HS.out]; exact hl); obtain ⟨d0, d1⟩ := two_cells hl'; have lg := hl'.lt; have HL := hide hl'; have HF := hide hf; clear hl hf hl')
    have hno := World.ownsRow_nil w1 w.heap.size 4 1
    have HNo := hide hno
    have hzw := HF.out.size
    clear hno
    clear c0 c1 hne
    go_loopw [3, 17] (fun ov iv wr => ∃ (k : Nat), iv = .int .i64 k ∧ k ≤ S.size ∧ Hid (wr.ownsRow w.heap.size 4 1 ov k ((kpt (s.take k)).map .bool)) ∧ Hid (Bk wr g 115 #[.string S, .bool ok]) ∧ Hid (Fr (fun k => k = g) w wr)) (fun _ iv _ => S.size - (intOf iv).toNat)
    case atStart => exact ⟨0, rfl, by omega, HNo, HL, HF⟩
    case round =>
      clear HNo
      obtain ⟨k, rfl, hk, HO, HB, HR⟩ := hrel
      obtain ⟨A0, c0, rfl⟩ := own_formk HO.out
      obtain ⟨e0, e1⟩ := two_cells HB.out
      have lgr := HB.out.lt
      have hzr := HR.out.size
      by_cases hlt : k < S.size
      · obtain ⟨c, hc⟩ : ∃ c, c = S[k]'hlt := ⟨_, rfl⟩
        have hcn : (S[k]'hlt).toNat = c.toNat := by rw [hc]
        have hck : s[k]? = some c := by rw [hc, show s = bl S by rw [HS.out, bl_blB]]; exact bl_at S k hlt
        have hts : kpt (s.take (k + 1)) = kpt (s.take k) ++ [decide (c = 49)] := by rw [take_snoc hck]; unfold kpt; rw [List.map_append]; rfl
        have hb49 : ((c.toNat : Int) == 49) = decide (c = 49) := by
          by_cases h : c = 49
          · subst h; rfl
          · rw [decide_eq_false h]; exact byte_ne 49 h
        obtain ⟨b, hb⟩ : ∃ b, b = decide (c = 49) := ⟨_, rfl⟩
        rw [← hb] at hts hb49
        have HTs := hide hts
        clear hc hck hts hb
        obtain ⟨V, hV⟩ : ∃ V, V = Value.slice A0 k c0 := ⟨_, rfl⟩
        rw [← hV]
        have HO := hide (show wr.ownsRow w.heap.size 4 1 V k ((kpt (s.take k)).map .bool) by rw [hV]; exact HO.out)
        clear hV
        go_wp2_with (first
          | (at_builtin; refine wpList_append_own _ rfl (.tmp 20) (.tmp 28) 37 rfl w.heap.size 4 i0 (.bool false) 1 1 Tryz.underlying37 hi hz0 hz1 hz2 rfl (by decide) V k _ rfl (HO.out.alloc _) ⟨wr.heap.size, 0, none⟩ 1 1 [.bool b] rfl rfl (cell_one_new _ _ _) (by intro u hu; simp at hu; subst hu; rfl) (by unfold maxLen; omega) (by omega) (by simp; omega) ?_; intro v3 w3 hown3 hgr3 _
             have hB3 := (HB.out.alloc (.cells #[.bool b] 4)).grown hgr3 (fun he => by have := (HO.out.lt g he.symm).1; omega)
             have hf3 := ((HR.out.alloc (.cells #[.bool b] 4)).trans (Fr.grown (S := fun k => w.heap.size ≤ k) hgr3 (fun x hx => (HO.out.lt x hx).1)) (fun _ h => .inr h))
             have HB3 := hide hB3
             have HO3 := hide hown3
             have HF3 := hide hf3
             clear hB3 hown3 hgr3 hf3))
        exact ⟨⟨k + 1, by simp, by omega, hide (by rw [HTs.out, List.map_append]; exact HO3.out), HB3, HF3⟩, by simp [intOf]; omega⟩
      · obtain rfl : k = S.size := by omega
        have htk : s.take S.size = s := List.take_of_length_le (by omega)
        have ho := HO.out
        rw [htk] at ho
        have HO := hide ho
        have HEnd := hide (show ∀ (W : World) (b : Bool), Fr (fun k => k = g) w W → Bk W g 115 #[.string S, .bool b] → W.ownsRow w.heap.size 4 1 (.slice A0 S.size c0) S.size ((kpt s).map .bool) → KpO (W.setCell ⟨g, 0, none⟩ (.string ⟨#[]⟩)) w.heap.size (.slice A0 S.size c0) (kpt s) ∧ LrAt (W.setCell ⟨g, 0, none⟩ (.string ⟨#[]⟩)) g ([], b) ∧ Fr (fun k => k = g) w (W.setCell ⟨g, 0, none⟩ (.string ⟨#[]⟩)) from fun W b hf hk hown => ⟨by unfold KpO; rw [show (kpt s).length = S.size by unfold kpt; rw [List.length_map]; omega]; exact own_set hown (fun e => by have := (hown.lt g e).1; omega) _, hk.set_ 0 _, hf.setCell (p := ⟨g, 0, none⟩) (.inl rfl) _⟩)
        have f0 := HB.out.free 0
        have f1 := HB.out.free 1
        clear ho htk
        cases ok with
        | false =>
          go_wp2_with fail
          go_ret
          have h2 := HEnd.out (wr.setCell ⟨g, 1, none⟩ (.bool false)) false (HR.out.setCell (p := ⟨g, 1, none⟩) (.inl rfl) _) (HB.out.set_ 1 _) (own_set HO.out (fun e => by have := (HO.out.lt g e).1; omega) _)
          exact ⟨⟨_, rfl, h2.1⟩, h2.2⟩
        | true =>
          by_cases hz : S.size = 0
          · have hE : S.toList.isEmpty = true := by rw [isEmpty_str, decide_eq_true hz]
            have hsn : s = [] := List.eq_nil_of_length_eq_zero (by omega)
            have HSn := hide hsn
            clear hsn hz
            go_wp2_with fail
            go_ret
            have h2 := HEnd.out (wr.setCell ⟨g, 1, none⟩ (.bool false)) false (HR.out.setCell (p := ⟨g, 1, none⟩) (.inl rfl) _) (HB.out.set_ 1 _) (own_set HO.out (fun e => by have := (HO.out.lt g e).1; omega) _)
            have hb : (true && (decide (s ≠ []) && dg01 s)) = false := by rw [HSn.out]; rfl
            rw [hb]
            exact ⟨⟨_, rfl, h2.1⟩, h2.2⟩
          · have hE : S.toList.isEmpty = false := by rw [isEmpty_str, decide_eq_false hz]
            have HSn := hide (show s ≠ [] from fun e => by rw [e] at hsz; exact hz (by simpa using hsz))
            have htr := fun W => trim01 S W (by omega)
            rw [show bl S = s by rw [HS.out, bl_blB]] at htr
            obtain ⟨d, hd⟩ : ∃ d, d = dg01 s := ⟨_, rfl⟩
            rw [← hd] at htr
            have HD := hide hd
            have HTr := hide htr
            clear hd htr hz
            go_wp2_with (go_at_call 85; refine Calls.mono (HTr.out _) ?_; rintro e w3 ⟨⟨t, rfl, ht⟩, hb3⟩; have hEt : t.toList.isEmpty = d := (by rw [isEmpty_str]; cases d with | true => exact decide_eq_true (ht.2 rfl) | false => exact decide_eq_false (fun h => by cases ht.1 h)); have hk3 := HB.out.keep hb3; obtain ⟨m0, m1⟩ := two_cells hk3; have f3 := hk3.free 0; have f4 := hk3.free 1; have lg3 := hk3.lt; have HK3 := hide hk3; have HO3 := hide (own_keep HO.out hb3); have HF3 := hide (HR.out.trans (Fr.below hb3 (fun k => k = g)) (fun _ h => .inl h)); clear ht hk3 hb3)
            go_ret
            have h2 := HEnd.out (w3.setCell ⟨g, 1, none⟩ (.bool d)) d (HF3.out.setCell (p := ⟨g, 1, none⟩) (.inl rfl) _) (HK3.out.set_ 1 _) (own_set HO3.out (fun e => by have := (HO3.out.lt g e).1; omega) _)
            have hb : (true && (decide (s ≠ []) && dg01 s)) = d := by rw [decide_eq_true HSn.out, HD.out]; simp
            rw [hb]
            exact ⟨⟨.slice A0 S.size c0, by rw [hsz]; rfl, h2.1⟩, h2.2⟩
end Go.Proofs.YtahnnebpadbopaaGreatDoor
