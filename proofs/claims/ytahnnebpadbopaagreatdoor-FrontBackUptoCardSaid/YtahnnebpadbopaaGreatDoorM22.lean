/- Lemmas for the row: FrO, FrV, FrX. -/
import Derived.Test.YtahnnebpadbopaaGreatDoorM20
import Derived.Test.YtahnnebpadbopaaGreatDoorM21
import Derived.Deep.AppendLies
import Derived.Deep.RegionHeld3
set_option linter.unusedVariables false
set_option linter.unusedSimpArgs false
/- Walk: front.line (printed by gen_fro.py). -/
namespace Go.Proofs.YtahnnebpadbopaaGreatDoor
open Go.RowKit Go.Sort

theorem info_str : (Tryz.prog.info? 9).map (fun i => (i.zero, i.size, i.bytes)) = some (some (.string ⟨#[]⟩), 1, 16) := by kernel_rfl
theorem join_own {w : World} {base n c : Nat} {A : Option Addr} {xs : List ByteArray} (h : w.ownsRow base 9 1 (.slice A n c) n (xs.map .string)) (hn : xs.length = n) (hn0 : 0 < n) (hn3 : n ≤ 3) (hs : ∀ x ∈ xs, x.size ≤ 1000000000) :
    Calls Tryz.prog 48 #[.slice A n c, .string ⟨#[32]⟩] w fun e w' => e = .returned (.string (blB (Lib.join (xs.map bl) [32]))) ∧ Below w.heap.size w w' := by
  obtain ⟨g, rfl, hc⟩ := own_some h hn0
  have hcells := h.cells (g := g) rfl
  subst hn
  have hlen : (Lib.join (xs.map bl) [32]).length ≤ 3000000010 := by
    unfold Lib.join
    match xs, hn3, hs with
    | [], _, _ => simp
    | [a], _, hs => 
      have := hs a (by simp)
      simp [bl_size]; omega
    | [a, b], _, hs => 
      have h1 := hs a (by simp)
      have h2 := hs b (by simp)
      simp [List.intercalate, bl_size]; omega
    | [a, b, d], _, hs => 
      have h1 := hs a (by simp)
      have h2 := hs b (by simp)
      have h3 := hs d (by simp)
      simp [List.intercalate, bl_size]; omega
    | _ :: _ :: _ :: _ :: _, h, _ => simp at h
  exact Tryz.strings_Join g 0 c xs ⟨#[32]⟩ w (fun j x hx => by
    have := hcells j (.string x) (by rw [List.getElem?_map, hx]; rfl)
    rw [Addr.add_lit] at this
    exact this) (own_lt h g rfl) (by omega) hc (by show (Lib.join (xs.map bl) [32]).length ≤ _; omega)
theorem own_lit1 {W : World} {base g : Nat} {t : TypeId} {u : Value} (h : Bk W g t #[u]) (hb : base ≤ g) : W.ownsRow base t 1 (.slice (some ⟨g, 0, none⟩) 1 1) 1 [u] :=
  ⟨rfl, .inr ⟨g, 1, #[u], rfl, hb, h, Nat.le_refl _, by unfold maxLen; omega, rfl, rfl⟩⟩
theorem blB_size (l : List UInt8) : (blB l).size = l.length := by rw [← bl_size]; rfl
theorem verb_len (k : Nat) : (verbB k).length ≤ 6 := by
  unfold verbB
  split <;> simp
theorem below_gr (B : Nat) (w : World) (hB : B ≤ w.heap.size) (n : Nat) (os : Array Obj) : Below B w (grow (w.drewN n) os) :=
  ⟨rfl, rfl, rfl, by show _ ≤ (w.heap ++ os).size; simp, fun i hi => by show (w.heap ++ os)[i]? = _; rw [Array.getElem?_append_left (by omega)]⟩
def Pw10 (w : World) : Prop := Lib.TabIs Tryz.prog w "internal/strconv.uint64pow10" .u64 Lib.pow10Tab
theorem pw10_below {w w' : World} (h : Pw10 w) (hb : Below w.heap.size w w') : Pw10 w' := by
  unfold Pw10 Lib.TabIs World.var? at *
  cases hg : Tryz.prog.globalNamed "internal/strconv.uint64pow10" with
  | none => simp [hg] at h
  | some g =>
    simp only [hg, Option.bind_some] at h ⊢
    have hlt : g < w.heap.size := by
      rcases Nat.lt_or_ge g w.heap.size with h' | h'
      · exact h'
      · rw [Array.getElem?_eq_none h'] at h; simp at h
    rw [hb.block g hlt]
    exact h
theorem fint_any (n : Int) (w : World) (h1 : -1000000000 < n) (h2 : n < 1000000000) (hP : Pw10 w) : Calls Tryz.prog 46 #[.int .i64 n, .int .i64 10] w fun e w' => e = .returned (.string (blB (Lib.itoa n))) ∧ Below w.heap.size w w' := by
  refine Calls.mono (Tryz.strconv_FormatInt_10 n (by omega) (by omega) w hP) ?_
  rintro e w' ⟨rfl, k, os, rfl⟩
  exact ⟨rfl, below_gr _ _ (Nat.le_refl _) _ _⟩
set_option maxRecDepth 100000 in
set_option maxHeartbeats 8000000 in
theorem fline_any (k : Nat) (nm to_ tx : ByteArray) (n : Int) (l : List Bool) (A : Option Addr) (c : Nat) (w : World) (h1 : nm.size ≤ 100000000) (h2 : to_.size ≤ 100000000) (h3 : tx.size ≤ 100000000) (h4 : l.length ≤ 100000000) (hA : Rd w w.heap.size A (l.map .bool)) (hV : VerbT w) (hG : 1 < w.heap.size) (hP : Pw10 w) (hn1 : -1000000000 < n) (hn2 : n < 1000000000) (k1 : 1 ≤ k) (k10 : k ≤ 10) :
    Calls Tryz.prog 24 #[.agg #[.int .u8 (k : Nat), .string nm, .string to_, .string tx, .int .i64 n, .slice A l.length c]] w fun e w' => e = .returned (.string (blB (lineB ⟨k, nm, to_, tx, n, l⟩ ++ [10]))) ∧ Below w.heap.size w w' := by
  have hk : k = 1 ∨ k = 2 ∨ k = 3 ∨ k = 4 ∨ k = 5 ∨ k = 6 ∨ k = 7 ∨ k = 8 ∨ k = 9 ∨ k = 10 := by omega
  clear k1 k10
  rcases hk with rfl | rfl | rfl | rfl | rfl | rfl | rfl | rfl | rfl | rfl
  · obtain ⟨w0, hw0⟩ : ∃ w0, w0 = w.alloc (.cells #[.int .u8 1, .string nm, .string to_, .string tx, .int .i64 n, .slice A l.length c] 39) := ⟨_, rfl⟩
    have hb0 : Below w.heap.size w w0 := by rw [hw0]; exact ba1 _ _
    have kk : Bk w0 w.heap.size 39 #[.int .u8 1, .string nm, .string to_, .string tx, .int .i64 n, .slice A l.length c] := by rw [hw0]; exact Bk.new _ _ _
    have g0 := kk.cell 0
    have lk := kk.lt
    have hvb := (show Calls Tryz.prog 45 #[.int .u8 1] w0 fun e w' => e = .returned (.string (blB (verbB 1))) ∧ w' = w0 from verb_any 1 w0 (by omega) (hV.below hb0 hG))
    have hvs : (blB (verbB 1)).size ≤ 6 := by rw [blB_size]; exact verb_len 1
    obtain ⟨V, hVV⟩ : ∃ V, V = blB (verbB 1) := ⟨_, rfl⟩
    rw [← hVV] at hvb hvs
    have HVb := hide hvb
    have HVV := hide hVV
    have HW0 := hide hw0
    have HB0 := hide hb0
    have HKK := hide kk
    obtain ⟨i0, hi, hz0, hz1, hz2⟩ := info_parts info_str
    clear hvb hVV hb0 kk hV
    go_enter Tryz.func24, Tryz.ntmps24
    go_upto_region 2 with (go_at_call 45; rw [← HW0.out]; refine Calls.mono HVb.out ?_; rintro e w1 ⟨rfl, rfl⟩)
    rw [← HW0.out]
    have hsz : w1.heap.size = w.heap.size + 1 := by rw [HW0.out]; simp
    obtain ⟨W2, hW2⟩ : ∃ W2, W2 = w1.alloc (.cells #[.string V] 9) := ⟨_, rfl⟩
    rw [← hW2]
    have kv : Bk W2 (w.heap.size + 1) 9 #[.string V] := by rw [hW2, ← hsz]; exact Bk.new _ _ _
    have ho := own_lit1 (base := w.heap.size) kv (by omega)
    have hb2 : Below w.heap.size w W2 := by rw [hW2]; exact HB0.out.trans ((ba1 _ _).mono (by omega))
    have kk2 := HKK.out.keep (show Below w1.heap.size w1 W2 by rw [hW2]; exact ba1 _ _)
    have y0 := kk2.cell 0
    have y1 := kk2.cell 1
    have y2 := kk2.cell 3
    have ly := kk2.lt
    have HO := hide ho
    have HB := hide hb2
    have HK2 := hide kk2
    obtain ⟨q, hqd⟩ : ∃ q : ByteArray → ByteArray, ∀ s, q s = blB (quoteB (bl s)) := ⟨_, fun _ => rfl⟩
    have hq : ∀ (s : ByteArray) (W : World), s.size ≤ 100000000 → Calls Tryz.prog 15 #[.string s] W fun e w' => e = .returned (.string (q s)) ∧ Below W.heap.size W w' := fun s W h => by rw [hqd]; exact fquote_any s W h
    have hqs : ∀ s : ByteArray, s.size ≤ 100000000 → (q s).size ≤ 400000002 := fun s h => by
      rw [hqd, blB_size]
      have := quote_max (bl s)
      rw [bl_size] at this
      unfold quoteB
      rw [List.length_cons, List.length_append, List.length_singleton]
      omega
    have s1 := hqs nm h1
    have s2 := hqs tx h3
    have y5 : ¬ 9223372036854775807 < (blB (Lib.join [bl V, bl (q nm), bl (q tx)] [32])).size + 1 := by
      rw [blB_size]
      simp [Lib.join, List.intercalate, bl_size]
      omega
    have HQ := hide hq
    have HQd := hide hqd
    have hd0 : ¬ w.heap.size = w.heap.size + 1 := by omega
    clear hsz kv ho hb2 kk2 hqd hq hqs hW2 hw0 g0 lk
    go_wp2_with fail
    go_region_held3 (fun w' => w'.cell? ⟨w.heap.size, 1, none⟩ = some (.string nm) ∧ w'.cell? ⟨w.heap.size, 3, none⟩ = some (.string tx))
      (first | with_reducible exact ⟨y1, y2⟩ | go_keep)
      (first
      | (go_at_call 15; refine Calls.mono (HQ.out _ _ (by assumption)) ?_; rintro e w3 ⟨rfl, hb3⟩; have HO := hide (own_keep (by exact HO.out) hb3); have HB := hide (Below.trans (by first | exact HB.out | exact HB.out.drew) (hb3.mono (by exact HB.out.size))); have HK2 := hide (Bk.keep (by exact HK2.out) hb3); have y1 := HK2.out.cell 1; have y2 := HK2.out.cell 3; have ly := HK2.out.lt; clear hb3)
      | (refine step_append_lies _ rfl (.tmp 12) (.tmp 19) 94 rfl w.heap.size 9 i0 (.string ⟨#[]⟩) 1 16 Tryz.underlying94 hi hz0 hz1 hz2 rfl (by decide) (.slice (some ⟨w.heap.size + 1, 0, none⟩) 1 1) 1 [.string V] rfl (HO.out.alloc _) ⟨_, 0, none⟩ 2 2 [.string (q nm), .string (q tx)] rfl rfl (World.news_of_block (Bk.new _ _ _)) (by intro u hu; simp at hu; rcases hu with rfl | rfl <;> rfl) (by decide) (by unfold maxLen; omega) (by omega) (by have := HB.out.size; simp; omega) _ rfl ?_; intro g4 cap4 w4 hown4 hgr4 _ _; have hb4 : Below w.heap.size w w4 := (HB.out.alloc HB.out.size _).grown hgr4 (by have := HB.out.size; simp; omega) (fun g hg => (HO.out.lt g hg).1); have HK2 := hide (show Bk w4 w.heap.size _ _ from (hgr4.block _ (by have := HK2.out.lt; simp; omega) (fun h => hd0 (Option.some.inj h))).trans (Bk.keep HK2.out (ba1 _ _))); have y1 := HK2.out.cell 1; have y2 := HK2.out.cell 3; have HO4 := hide hown4; have HB4 := hide hb4; clear hown4 hgr4 hb4)) <;>
    (go_wp2_with (first
      | (go_at_call 48; refine Calls.mono (join_own (xs := [V, q nm, q tx]) HO4.out rfl (by decide) (by decide) (by intro x hx; simp at hx; rcases hx with rfl | rfl | rfl <;> omega)) ?_; rintro e w5 ⟨rfl, hb5⟩; have HB5 := hide (HB4.out.trans (hb5.mono HB4.out.size)); clear hb5))
     go_ret
     have he : Lib.join [bl V, bl (q nm), bl (q tx)] [32] = lineB ⟨1, nm, to_, tx, n, l⟩ := by rw [HVV.out, HQd.out, HQd.out, bl_blB, bl_blB, bl_blB]; simp [Lib.join, List.intercalate, lineB, argsB]
     exact ⟨by show Ending.returned (.string (blB (Lib.join [bl V, bl (q nm), bl (q tx)] [32]) ++ (⟨#[10]⟩ : ByteArray))) = _; rw [he, show (⟨#[10]⟩ : ByteArray) = blB [10] from rfl, blB_app], HB5.out⟩)
  · obtain ⟨w0, hw0⟩ : ∃ w0, w0 = w.alloc (.cells #[.int .u8 2, .string nm, .string to_, .string tx, .int .i64 n, .slice A l.length c] 39) := ⟨_, rfl⟩
    have hb0 : Below w.heap.size w w0 := by rw [hw0]; exact ba1 _ _
    have kk : Bk w0 w.heap.size 39 #[.int .u8 2, .string nm, .string to_, .string tx, .int .i64 n, .slice A l.length c] := by rw [hw0]; exact Bk.new _ _ _
    have g0 := kk.cell 0
    have lk := kk.lt
    have hvb := (show Calls Tryz.prog 45 #[.int .u8 2] w0 fun e w' => e = .returned (.string (blB (verbB 2))) ∧ w' = w0 from verb_any 2 w0 (by omega) (hV.below hb0 hG))
    have hvs : (blB (verbB 2)).size ≤ 6 := by rw [blB_size]; exact verb_len 2
    obtain ⟨V, hVV⟩ : ∃ V, V = blB (verbB 2) := ⟨_, rfl⟩
    rw [← hVV] at hvb hvs
    have HVb := hide hvb
    have HVV := hide hVV
    have HW0 := hide hw0
    have HB0 := hide hb0
    have HKK := hide kk
    obtain ⟨i0, hi, hz0, hz1, hz2⟩ := info_parts info_str
    clear hvb hVV hb0 kk hV
    go_enter Tryz.func24, Tryz.ntmps24
    go_upto_region 2 with (go_at_call 45; rw [← HW0.out]; refine Calls.mono HVb.out ?_; rintro e w1 ⟨rfl, rfl⟩)
    rw [← HW0.out]
    have hsz : w1.heap.size = w.heap.size + 1 := by rw [HW0.out]; simp
    obtain ⟨W2, hW2⟩ : ∃ W2, W2 = w1.alloc (.cells #[.string V] 9) := ⟨_, rfl⟩
    rw [← hW2]
    have kv : Bk W2 (w.heap.size + 1) 9 #[.string V] := by rw [hW2, ← hsz]; exact Bk.new _ _ _
    have ho := own_lit1 (base := w.heap.size) kv (by omega)
    have hb2 : Below w.heap.size w W2 := by rw [hW2]; exact HB0.out.trans ((ba1 _ _).mono (by omega))
    have kk2 := HKK.out.keep (show Below w1.heap.size w1 W2 by rw [hW2]; exact ba1 _ _)
    have y0 := kk2.cell 0
    have y1 := kk2.cell 1
    have ly := kk2.lt
    have HO := hide ho
    have HB2 := hide hb2
    have HK2 := hide kk2
    have hq := fun W => fquote_any nm W h1
    obtain ⟨Q, hQ⟩ : ∃ Q, Q = blB (quoteB (bl nm)) := ⟨_, rfl⟩
    rw [← hQ] at hq
    have hQs : Q.size ≤ 400000002 := by
      rw [hQ, blB_size]
      have := quote_max (bl nm)
      rw [bl_size] at this
      unfold quoteB
      rw [List.length_cons, List.length_append, List.length_singleton]
      omega
    have HQ := hide hq
    have HQe := hide hQ
    have y5 : ¬ 9223372036854775807 < (blB (Lib.join [bl V, bl Q] [32])).size + 1 := by
      rw [blB_size]
      simp [Lib.join, List.intercalate, bl_size]
      omega
    have hW2z := hb2.size
    clear hsz kv ho hb2 kk2 hq hQ hW2 hw0 g0 lk
    go_wp2_with (first
      | (go_at_call 15; refine Calls.mono (HQ.out _) ?_; rintro e w3 ⟨rfl, hb3⟩; have HO3 := hide (own_keep HO.out hb3); have hz3 := hb3.size; have HB3 := hide (HB2.out.trans (hb3.mono HB2.out.size)); clear hb3)
      | (at_builtin; refine wpList_append_own _ rfl (.tmp 24) (.tmp 28) 94 rfl w.heap.size 9 i0 (.string ⟨#[]⟩) 1 16 Tryz.underlying94 hi hz0 hz1 hz2 rfl (by decide) _ _ _ rfl (HO3.out.alloc _) ⟨_, 0, none⟩ 1 1 [.string Q] rfl rfl (cell_one_new _ _ _) (by intro u hu; simp at hu; subst hu; rfl) (by unfold maxLen; omega) (by omega) (by simp; omega) ?_; intro v4 w4 hown4 hgr4 _; have hb4 : Below w.heap.size w w4 := (HB3.out.alloc HB3.out.size _).grown hgr4 (by simp; omega) (fun g hg => (HO3.out.lt g hg).1); obtain ⟨A4, c4, rfl⟩ := own_formk hown4; have HO4 := hide hown4; have HB4 := hide hb4; clear hown4 hgr4 hb4)
      | (go_at_call 48; refine Calls.mono (join_own (xs := [V, Q]) HO4.out rfl (by decide) (by decide) (by intro x hx; simp at hx; rcases hx with rfl | rfl <;> omega)) ?_; rintro e w5 ⟨rfl, hb5⟩; have HB5 := hide (HB4.out.trans (hb5.mono HB4.out.size)); clear hb5))
    go_ret
    have he : Lib.join [bl V, bl Q] [32] = lineB ⟨2, nm, to_, tx, n, l⟩ := by rw [HVV.out, HQe.out, bl_blB, bl_blB]; simp [Lib.join, List.intercalate, lineB, argsB]
    exact ⟨by show Ending.returned (.string (blB (Lib.join [bl V, bl Q] [32]) ++ (⟨#[10]⟩ : ByteArray))) = _; rw [he, show (⟨#[10]⟩ : ByteArray) = blB [10] from rfl, blB_app], HB5.out⟩
  · obtain ⟨w0, hw0⟩ : ∃ w0, w0 = w.alloc (.cells #[.int .u8 3, .string nm, .string to_, .string tx, .int .i64 n, .slice A l.length c] 39) := ⟨_, rfl⟩
    have hb0 : Below w.heap.size w w0 := by rw [hw0]; exact ba1 _ _
    have kk : Bk w0 w.heap.size 39 #[.int .u8 3, .string nm, .string to_, .string tx, .int .i64 n, .slice A l.length c] := by rw [hw0]; exact Bk.new _ _ _
    have g0 := kk.cell 0
    have lk := kk.lt
    have hvb := (show Calls Tryz.prog 45 #[.int .u8 3] w0 fun e w' => e = .returned (.string (blB (verbB 3))) ∧ w' = w0 from verb_any 3 w0 (by omega) (hV.below hb0 hG))
    have hvs : (blB (verbB 3)).size ≤ 6 := by rw [blB_size]; exact verb_len 3
    obtain ⟨V, hVV⟩ : ∃ V, V = blB (verbB 3) := ⟨_, rfl⟩
    rw [← hVV] at hvb hvs
    have HVb := hide hvb
    have HVV := hide hVV
    have HW0 := hide hw0
    have HB0 := hide hb0
    have HKK := hide kk
    obtain ⟨i0, hi, hz0, hz1, hz2⟩ := info_parts info_str
    clear hvb hVV hb0 kk hV
    go_enter Tryz.func24, Tryz.ntmps24
    go_upto_region 2 with (go_at_call 45; rw [← HW0.out]; refine Calls.mono HVb.out ?_; rintro e w1 ⟨rfl, rfl⟩)
    rw [← HW0.out]
    have hsz : w1.heap.size = w.heap.size + 1 := by rw [HW0.out]; simp
    obtain ⟨W2, hW2⟩ : ∃ W2, W2 = w1.alloc (.cells #[.string V] 9) := ⟨_, rfl⟩
    rw [← hW2]
    have kv : Bk W2 (w.heap.size + 1) 9 #[.string V] := by rw [hW2, ← hsz]; exact Bk.new _ _ _
    have ho := own_lit1 (base := w.heap.size) kv (by omega)
    have hb2 : Below w.heap.size w W2 := by rw [hW2]; exact HB0.out.trans ((ba1 _ _).mono (by omega))
    have kk2 := HKK.out.keep (show Below w1.heap.size w1 W2 by rw [hW2]; exact ba1 _ _)
    have y0 := kk2.cell 0
    have y1 := kk2.cell 1
    have ly := kk2.lt
    have HO := hide ho
    have HB2 := hide hb2
    have HK2 := hide kk2
    have hq := fun W => fquote_any nm W h1
    obtain ⟨Q, hQ⟩ : ∃ Q, Q = blB (quoteB (bl nm)) := ⟨_, rfl⟩
    rw [← hQ] at hq
    have hQs : Q.size ≤ 400000002 := by
      rw [hQ, blB_size]
      have := quote_max (bl nm)
      rw [bl_size] at this
      unfold quoteB
      rw [List.length_cons, List.length_append, List.length_singleton]
      omega
    have HQ := hide hq
    have HQe := hide hQ
    have y5 : ¬ 9223372036854775807 < (blB (Lib.join [bl V, bl Q] [32])).size + 1 := by
      rw [blB_size]
      simp [Lib.join, List.intercalate, bl_size]
      omega
    have hW2z := hb2.size
    clear hsz kv ho hb2 kk2 hq hQ hW2 hw0 g0 lk
    go_wp2_with (first
      | (go_at_call 15; refine Calls.mono (HQ.out _) ?_; rintro e w3 ⟨rfl, hb3⟩; have HO3 := hide (own_keep HO.out hb3); have hz3 := hb3.size; have HB3 := hide (HB2.out.trans (hb3.mono HB2.out.size)); clear hb3)
      | (at_builtin; refine wpList_append_own _ rfl (.tmp 24) (.tmp 28) 94 rfl w.heap.size 9 i0 (.string ⟨#[]⟩) 1 16 Tryz.underlying94 hi hz0 hz1 hz2 rfl (by decide) _ _ _ rfl (HO3.out.alloc _) ⟨_, 0, none⟩ 1 1 [.string Q] rfl rfl (cell_one_new _ _ _) (by intro u hu; simp at hu; subst hu; rfl) (by unfold maxLen; omega) (by omega) (by simp; omega) ?_; intro v4 w4 hown4 hgr4 _; have hb4 : Below w.heap.size w w4 := (HB3.out.alloc HB3.out.size _).grown hgr4 (by simp; omega) (fun g hg => (HO3.out.lt g hg).1); obtain ⟨A4, c4, rfl⟩ := own_formk hown4; have HO4 := hide hown4; have HB4 := hide hb4; clear hown4 hgr4 hb4)
      | (go_at_call 48; refine Calls.mono (join_own (xs := [V, Q]) HO4.out rfl (by decide) (by decide) (by intro x hx; simp at hx; rcases hx with rfl | rfl <;> omega)) ?_; rintro e w5 ⟨rfl, hb5⟩; have HB5 := hide (HB4.out.trans (hb5.mono HB4.out.size)); clear hb5))
    go_ret
    have he : Lib.join [bl V, bl Q] [32] = lineB ⟨3, nm, to_, tx, n, l⟩ := by rw [HVV.out, HQe.out, bl_blB, bl_blB]; simp [Lib.join, List.intercalate, lineB, argsB]
    exact ⟨by show Ending.returned (.string (blB (Lib.join [bl V, bl Q] [32]) ++ (⟨#[10]⟩ : ByteArray))) = _; rw [he, show (⟨#[10]⟩ : ByteArray) = blB [10] from rfl, blB_app], HB5.out⟩
  · obtain ⟨w0, hw0⟩ : ∃ w0, w0 = w.alloc (.cells #[.int .u8 4, .string nm, .string to_, .string tx, .int .i64 n, .slice A l.length c] 39) := ⟨_, rfl⟩
    have hb0 : Below w.heap.size w w0 := by rw [hw0]; exact ba1 _ _
    have kk : Bk w0 w.heap.size 39 #[.int .u8 4, .string nm, .string to_, .string tx, .int .i64 n, .slice A l.length c] := by rw [hw0]; exact Bk.new _ _ _
    have g0 := kk.cell 0
    have lk := kk.lt
    have hvb := (show Calls Tryz.prog 45 #[.int .u8 4] w0 fun e w' => e = .returned (.string (blB (verbB 4))) ∧ w' = w0 from verb_any 4 w0 (by omega) (hV.below hb0 hG))
    have hvs : (blB (verbB 4)).size ≤ 6 := by rw [blB_size]; exact verb_len 4
    obtain ⟨V, hVV⟩ : ∃ V, V = blB (verbB 4) := ⟨_, rfl⟩
    rw [← hVV] at hvb hvs
    have HVb := hide hvb
    have HVV := hide hVV
    have HW0 := hide hw0
    have HB0 := hide hb0
    have HKK := hide kk
    obtain ⟨i0, hi, hz0, hz1, hz2⟩ := info_parts info_str
    clear hvb hVV hb0 kk hV
    go_enter Tryz.func24, Tryz.ntmps24
    go_upto_region 2 with (go_at_call 45; rw [← HW0.out]; refine Calls.mono HVb.out ?_; rintro e w1 ⟨rfl, rfl⟩)
    rw [← HW0.out]
    have hsz : w1.heap.size = w.heap.size + 1 := by rw [HW0.out]; simp
    obtain ⟨W2, hW2⟩ : ∃ W2, W2 = w1.alloc (.cells #[.string V] 9) := ⟨_, rfl⟩
    rw [← hW2]
    have kv : Bk W2 (w.heap.size + 1) 9 #[.string V] := by rw [hW2, ← hsz]; exact Bk.new _ _ _
    have ho := own_lit1 (base := w.heap.size) kv (by omega)
    have hb2 : Below w.heap.size w W2 := by rw [hW2]; exact HB0.out.trans ((ba1 _ _).mono (by omega))
    have kk2 := HKK.out.keep (show Below w1.heap.size w1 W2 by rw [hW2]; exact ba1 _ _)
    have y0 := kk2.cell 0
    have y1 := kk2.cell 1
    have y2 := kk2.cell 2
    have ly := kk2.lt
    have HO := hide ho
    have HB := hide hb2
    have HK2 := hide kk2
    obtain ⟨q, hqd⟩ : ∃ q : ByteArray → ByteArray, ∀ s, q s = blB (quoteB (bl s)) := ⟨_, fun _ => rfl⟩
    have hq : ∀ (s : ByteArray) (W : World), s.size ≤ 100000000 → Calls Tryz.prog 15 #[.string s] W fun e w' => e = .returned (.string (q s)) ∧ Below W.heap.size W w' := fun s W h => by rw [hqd]; exact fquote_any s W h
    have hqs : ∀ s : ByteArray, s.size ≤ 100000000 → (q s).size ≤ 400000002 := fun s h => by
      rw [hqd, blB_size]
      have := quote_max (bl s)
      rw [bl_size] at this
      unfold quoteB
      rw [List.length_cons, List.length_append, List.length_singleton]
      omega
    have s1 := hqs nm h1
    have s2 := hqs to_ h2
    have y5 : ¬ 9223372036854775807 < (blB (Lib.join [bl V, bl (q nm), bl (q to_)] [32])).size + 1 := by
      rw [blB_size]
      simp [Lib.join, List.intercalate, bl_size]
      omega
    have HQ := hide hq
    have HQd := hide hqd
    have hd0 : ¬ w.heap.size = w.heap.size + 1 := by omega
    clear hsz kv ho hb2 kk2 hqd hq hqs hW2 hw0 g0 lk
    go_wp2_with fail
    go_region_held3 (fun w' => w'.cell? ⟨w.heap.size, 1, none⟩ = some (.string nm) ∧ w'.cell? ⟨w.heap.size, 2, none⟩ = some (.string to_))
      (first | with_reducible exact ⟨y1, y2⟩ | go_keep)
      (first
      | (go_at_call 15; refine Calls.mono (HQ.out _ _ (by assumption)) ?_; rintro e w3 ⟨rfl, hb3⟩; have HO := hide (own_keep (by exact HO.out) hb3); have HB := hide (Below.trans (by first | exact HB.out | exact HB.out.drew) (hb3.mono (by exact HB.out.size))); have HK2 := hide (Bk.keep (by exact HK2.out) hb3); have y1 := HK2.out.cell 1; have y2 := HK2.out.cell 2; have ly := HK2.out.lt; clear hb3)
      | (refine step_append_lies _ rfl (.tmp 33) (.tmp 40) 94 rfl w.heap.size 9 i0 (.string ⟨#[]⟩) 1 16 Tryz.underlying94 hi hz0 hz1 hz2 rfl (by decide) (.slice (some ⟨w.heap.size + 1, 0, none⟩) 1 1) 1 [.string V] rfl (HO.out.alloc _) ⟨_, 0, none⟩ 2 2 [.string (q nm), .string (q to_)] rfl rfl (World.news_of_block (Bk.new _ _ _)) (by intro u hu; simp at hu; rcases hu with rfl | rfl <;> rfl) (by decide) (by unfold maxLen; omega) (by omega) (by have := HB.out.size; simp; omega) _ rfl ?_; intro g4 cap4 w4 hown4 hgr4 _ _; have hb4 : Below w.heap.size w w4 := (HB.out.alloc HB.out.size _).grown hgr4 (by have := HB.out.size; simp; omega) (fun g hg => (HO.out.lt g hg).1); have HK2 := hide (show Bk w4 w.heap.size _ _ from (hgr4.block _ (by have := HK2.out.lt; simp; omega) (fun h => hd0 (Option.some.inj h))).trans (Bk.keep HK2.out (ba1 _ _))); have y1 := HK2.out.cell 1; have y2 := HK2.out.cell 2; have HO4 := hide hown4; have HB4 := hide hb4; clear hown4 hgr4 hb4)) <;>
    (go_wp2_with (first
      | (go_at_call 48; refine Calls.mono (join_own (xs := [V, q nm, q to_]) HO4.out rfl (by decide) (by decide) (by intro x hx; simp at hx; rcases hx with rfl | rfl | rfl <;> omega)) ?_; rintro e w5 ⟨rfl, hb5⟩; have HB5 := hide (HB4.out.trans (hb5.mono HB4.out.size)); clear hb5))
     go_ret
     have he : Lib.join [bl V, bl (q nm), bl (q to_)] [32] = lineB ⟨4, nm, to_, tx, n, l⟩ := by rw [HVV.out, HQd.out, HQd.out, bl_blB, bl_blB, bl_blB]; simp [Lib.join, List.intercalate, lineB, argsB]
     exact ⟨by show Ending.returned (.string (blB (Lib.join [bl V, bl (q nm), bl (q to_)] [32]) ++ (⟨#[10]⟩ : ByteArray))) = _; rw [he, show (⟨#[10]⟩ : ByteArray) = blB [10] from rfl, blB_app], HB5.out⟩)
  · obtain ⟨w0, hw0⟩ : ∃ w0, w0 = w.alloc (.cells #[.int .u8 5, .string nm, .string to_, .string tx, .int .i64 n, .slice A l.length c] 39) := ⟨_, rfl⟩
    have hb0 : Below w.heap.size w w0 := by rw [hw0]; exact ba1 _ _
    have kk : Bk w0 w.heap.size 39 #[.int .u8 5, .string nm, .string to_, .string tx, .int .i64 n, .slice A l.length c] := by rw [hw0]; exact Bk.new _ _ _
    have g0 := kk.cell 0
    have lk := kk.lt
    have hvb := (show Calls Tryz.prog 45 #[.int .u8 5] w0 fun e w' => e = .returned (.string (blB (verbB 5))) ∧ w' = w0 from verb_any 5 w0 (by omega) (hV.below hb0 hG))
    have hvs : (blB (verbB 5)).size ≤ 6 := by rw [blB_size]; exact verb_len 5
    obtain ⟨V, hVV⟩ : ∃ V, V = blB (verbB 5) := ⟨_, rfl⟩
    rw [← hVV] at hvb hvs
    have HVb := hide hvb
    have HVV := hide hVV
    have HW0 := hide hw0
    have HB0 := hide hb0
    have HKK := hide kk
    obtain ⟨i0, hi, hz0, hz1, hz2⟩ := info_parts info_str
    clear hvb hVV hb0 kk hV
    go_enter Tryz.func24, Tryz.ntmps24
    go_upto_region 2 with (go_at_call 45; rw [← HW0.out]; refine Calls.mono HVb.out ?_; rintro e w1 ⟨rfl, rfl⟩)
    rw [← HW0.out]
    have hsz : w1.heap.size = w.heap.size + 1 := by rw [HW0.out]; simp
    obtain ⟨W2, hW2⟩ : ∃ W2, W2 = w1.alloc (.cells #[.string V] 9) := ⟨_, rfl⟩
    rw [← hW2]
    have kv : Bk W2 (w.heap.size + 1) 9 #[.string V] := by rw [hW2, ← hsz]; exact Bk.new _ _ _
    have ho := own_lit1 (base := w.heap.size) kv (by omega)
    have hb2 : Below w.heap.size w W2 := by rw [hW2]; exact HB0.out.trans ((ba1 _ _).mono (by omega))
    have kk2 := HKK.out.keep (show Below w1.heap.size w1 W2 by rw [hW2]; exact ba1 _ _)
    have y0 := kk2.cell 0
    have ly := kk2.lt
    have HO := hide ho
    have HB2 := hide hb2
    have y5 : ¬ 9223372036854775807 < (blB (Lib.join [bl V] [32])).size + 1 := by
      rw [blB_size]
      simp [Lib.join, List.intercalate, bl_size]
      omega
    have hW2z := hb2.size
    clear hsz kv ho hb2 kk2 hW2 hw0 g0 lk
    go_wp2_with (first
      | (go_at_call 48; refine Calls.mono (join_own (xs := [V]) HO.out rfl (by decide) (by decide) (by intro x hx; simp at hx; subst hx; omega)) ?_; rintro e w5 ⟨rfl, hb5⟩; have HB5 := hide (HB2.out.trans (hb5.mono HB2.out.size)); clear hb5))
    go_ret
    have he : Lib.join [bl V] [32] = lineB ⟨5, nm, to_, tx, n, l⟩ := by rw [HVV.out, bl_blB]; simp [Lib.join, List.intercalate, lineB, argsB]
    exact ⟨by show Ending.returned (.string (blB (Lib.join [bl V] [32]) ++ (⟨#[10]⟩ : ByteArray))) = _; rw [he, show (⟨#[10]⟩ : ByteArray) = blB [10] from rfl, blB_app], HB5.out⟩
  · obtain ⟨w0, hw0⟩ : ∃ w0, w0 = w.alloc (.cells #[.int .u8 6, .string nm, .string to_, .string tx, .int .i64 n, .slice A l.length c] 39) := ⟨_, rfl⟩
    have hb0 : Below w.heap.size w w0 := by rw [hw0]; exact ba1 _ _
    have kk : Bk w0 w.heap.size 39 #[.int .u8 6, .string nm, .string to_, .string tx, .int .i64 n, .slice A l.length c] := by rw [hw0]; exact Bk.new _ _ _
    have g0 := kk.cell 0
    have lk := kk.lt
    have hvb := (show Calls Tryz.prog 45 #[.int .u8 6] w0 fun e w' => e = .returned (.string (blB (verbB 6))) ∧ w' = w0 from verb_any 6 w0 (by omega) (hV.below hb0 hG))
    have hvs : (blB (verbB 6)).size ≤ 6 := by rw [blB_size]; exact verb_len 6
    obtain ⟨V, hVV⟩ : ∃ V, V = blB (verbB 6) := ⟨_, rfl⟩
    rw [← hVV] at hvb hvs
    have HVb := hide hvb
    have HVV := hide hVV
    have HW0 := hide hw0
    have HB0 := hide hb0
    have HKK := hide kk
    obtain ⟨i0, hi, hz0, hz1, hz2⟩ := info_parts info_str
    clear hvb hVV hb0 kk hV
    go_enter Tryz.func24, Tryz.ntmps24
    go_upto_region 2 with (go_at_call 45; rw [← HW0.out]; refine Calls.mono HVb.out ?_; rintro e w1 ⟨rfl, rfl⟩)
    rw [← HW0.out]
    have hsz : w1.heap.size = w.heap.size + 1 := by rw [HW0.out]; simp
    obtain ⟨W2, hW2⟩ : ∃ W2, W2 = w1.alloc (.cells #[.string V] 9) := ⟨_, rfl⟩
    rw [← hW2]
    have kv : Bk W2 (w.heap.size + 1) 9 #[.string V] := by rw [hW2, ← hsz]; exact Bk.new _ _ _
    have ho := own_lit1 (base := w.heap.size) kv (by omega)
    have hb2 : Below w.heap.size w W2 := by rw [hW2]; exact HB0.out.trans ((ba1 _ _).mono (by omega))
    have kk2 := HKK.out.keep (show Below w1.heap.size w1 W2 by rw [hW2]; exact ba1 _ _)
    have y0 := kk2.cell 0
    have y1 := kk2.cell 1
    have y2 := kk2.cell 2
    have ly := kk2.lt
    have HO := hide ho
    have HB := hide hb2
    have HK2 := hide kk2
    obtain ⟨q, hqd⟩ : ∃ q : ByteArray → ByteArray, ∀ s, q s = blB (quoteB (bl s)) := ⟨_, fun _ => rfl⟩
    have hq : ∀ (s : ByteArray) (W : World), s.size ≤ 100000000 → Calls Tryz.prog 15 #[.string s] W fun e w' => e = .returned (.string (q s)) ∧ Below W.heap.size W w' := fun s W h => by rw [hqd]; exact fquote_any s W h
    have hqs : ∀ s : ByteArray, s.size ≤ 100000000 → (q s).size ≤ 400000002 := fun s h => by
      rw [hqd, blB_size]
      have := quote_max (bl s)
      rw [bl_size] at this
      unfold quoteB
      rw [List.length_cons, List.length_append, List.length_singleton]
      omega
    have s1 := hqs nm h1
    have s2 := hqs to_ h2
    have y5 : ¬ 9223372036854775807 < (blB (Lib.join [bl V, bl (q nm), bl (q to_)] [32])).size + 1 := by
      rw [blB_size]
      simp [Lib.join, List.intercalate, bl_size]
      omega
    have HQ := hide hq
    have HQd := hide hqd
    have hd0 : ¬ w.heap.size = w.heap.size + 1 := by omega
    clear hsz kv ho hb2 kk2 hqd hq hqs hW2 hw0 g0 lk
    go_wp2_with fail
    go_region_held3 (fun w' => w'.cell? ⟨w.heap.size, 1, none⟩ = some (.string nm) ∧ w'.cell? ⟨w.heap.size, 2, none⟩ = some (.string to_))
      (first | with_reducible exact ⟨y1, y2⟩ | go_keep)
      (first
      | (go_at_call 15; refine Calls.mono (HQ.out _ _ (by assumption)) ?_; rintro e w3 ⟨rfl, hb3⟩; have HO := hide (own_keep (by exact HO.out) hb3); have HB := hide (Below.trans (by first | exact HB.out | exact HB.out.drew) (hb3.mono (by exact HB.out.size))); have HK2 := hide (Bk.keep (by exact HK2.out) hb3); have y1 := HK2.out.cell 1; have y2 := HK2.out.cell 2; have ly := HK2.out.lt; clear hb3)
      | (refine step_append_lies _ rfl (.tmp 33) (.tmp 40) 94 rfl w.heap.size 9 i0 (.string ⟨#[]⟩) 1 16 Tryz.underlying94 hi hz0 hz1 hz2 rfl (by decide) (.slice (some ⟨w.heap.size + 1, 0, none⟩) 1 1) 1 [.string V] rfl (HO.out.alloc _) ⟨_, 0, none⟩ 2 2 [.string (q nm), .string (q to_)] rfl rfl (World.news_of_block (Bk.new _ _ _)) (by intro u hu; simp at hu; rcases hu with rfl | rfl <;> rfl) (by decide) (by unfold maxLen; omega) (by omega) (by have := HB.out.size; simp; omega) _ rfl ?_; intro g4 cap4 w4 hown4 hgr4 _ _; have hb4 : Below w.heap.size w w4 := (HB.out.alloc HB.out.size _).grown hgr4 (by have := HB.out.size; simp; omega) (fun g hg => (HO.out.lt g hg).1); have HK2 := hide (show Bk w4 w.heap.size _ _ from (hgr4.block _ (by have := HK2.out.lt; simp; omega) (fun h => hd0 (Option.some.inj h))).trans (Bk.keep HK2.out (ba1 _ _))); have y1 := HK2.out.cell 1; have y2 := HK2.out.cell 2; have HO4 := hide hown4; have HB4 := hide hb4; clear hown4 hgr4 hb4)) <;>
    (go_wp2_with (first
      | (go_at_call 48; refine Calls.mono (join_own (xs := [V, q nm, q to_]) HO4.out rfl (by decide) (by decide) (by intro x hx; simp at hx; rcases hx with rfl | rfl | rfl <;> omega)) ?_; rintro e w5 ⟨rfl, hb5⟩; have HB5 := hide (HB4.out.trans (hb5.mono HB4.out.size)); clear hb5))
     go_ret
     have he : Lib.join [bl V, bl (q nm), bl (q to_)] [32] = lineB ⟨6, nm, to_, tx, n, l⟩ := by rw [HVV.out, HQd.out, HQd.out, bl_blB, bl_blB, bl_blB]; simp [Lib.join, List.intercalate, lineB, argsB]
     exact ⟨by show Ending.returned (.string (blB (Lib.join [bl V, bl (q nm), bl (q to_)] [32]) ++ (⟨#[10]⟩ : ByteArray))) = _; rw [he, show (⟨#[10]⟩ : ByteArray) = blB [10] from rfl, blB_app], HB5.out⟩)
  · obtain ⟨w0, hw0⟩ : ∃ w0, w0 = w.alloc (.cells #[.int .u8 7, .string nm, .string to_, .string tx, .int .i64 n, .slice A l.length c] 39) := ⟨_, rfl⟩
    have hb0 : Below w.heap.size w w0 := by rw [hw0]; exact ba1 _ _
    have kk : Bk w0 w.heap.size 39 #[.int .u8 7, .string nm, .string to_, .string tx, .int .i64 n, .slice A l.length c] := by rw [hw0]; exact Bk.new _ _ _
    have g0 := kk.cell 0
    have lk := kk.lt
    have hvb := (show Calls Tryz.prog 45 #[.int .u8 7] w0 fun e w' => e = .returned (.string (blB (verbB 7))) ∧ w' = w0 from verb_any 7 w0 (by omega) (hV.below hb0 hG))
    have hvs : (blB (verbB 7)).size ≤ 6 := by rw [blB_size]; exact verb_len 7
    obtain ⟨V, hVV⟩ : ∃ V, V = blB (verbB 7) := ⟨_, rfl⟩
    rw [← hVV] at hvb hvs
    have HVb := hide hvb
    have HVV := hide hVV
    have HW0 := hide hw0
    have HB0 := hide hb0
    have HKK := hide kk
    obtain ⟨i0, hi, hz0, hz1, hz2⟩ := info_parts info_str
    clear hvb hVV hb0 kk hV
    go_enter Tryz.func24, Tryz.ntmps24
    go_upto_region 2 with (go_at_call 45; rw [← HW0.out]; refine Calls.mono HVb.out ?_; rintro e w1 ⟨rfl, rfl⟩)
    rw [← HW0.out]
    have hsz : w1.heap.size = w.heap.size + 1 := by rw [HW0.out]; simp
    obtain ⟨W2, hW2⟩ : ∃ W2, W2 = w1.alloc (.cells #[.string V] 9) := ⟨_, rfl⟩
    rw [← hW2]
    have kv : Bk W2 (w.heap.size + 1) 9 #[.string V] := by rw [hW2, ← hsz]; exact Bk.new _ _ _
    have ho := own_lit1 (base := w.heap.size) kv (by omega)
    have hb2 : Below w.heap.size w W2 := by rw [hW2]; exact HB0.out.trans ((ba1 _ _).mono (by omega))
    have kk2 := HKK.out.keep (show Below w1.heap.size w1 W2 by rw [hW2]; exact ba1 _ _)
    have y0 := kk2.cell 0
    have ly := kk2.lt
    have HO := hide ho
    have HB2 := hide hb2
    have y5 : ¬ 9223372036854775807 < (blB (Lib.join [bl V] [32])).size + 1 := by
      rw [blB_size]
      simp [Lib.join, List.intercalate, bl_size]
      omega
    have hW2z := hb2.size
    clear hsz kv ho hb2 kk2 hW2 hw0 g0 lk
    go_wp2_with (first
      | (go_at_call 48; refine Calls.mono (join_own (xs := [V]) HO.out rfl (by decide) (by decide) (by intro x hx; simp at hx; subst hx; omega)) ?_; rintro e w5 ⟨rfl, hb5⟩; have HB5 := hide (HB2.out.trans (hb5.mono HB2.out.size)); clear hb5))
    go_ret
    have he : Lib.join [bl V] [32] = lineB ⟨7, nm, to_, tx, n, l⟩ := by rw [HVV.out, bl_blB]; simp [Lib.join, List.intercalate, lineB, argsB]
    exact ⟨by show Ending.returned (.string (blB (Lib.join [bl V] [32]) ++ (⟨#[10]⟩ : ByteArray))) = _; rw [he, show (⟨#[10]⟩ : ByteArray) = blB [10] from rfl, blB_app], HB5.out⟩
  · obtain ⟨w0, hw0⟩ : ∃ w0, w0 = w.alloc (.cells #[.int .u8 8, .string nm, .string to_, .string tx, .int .i64 n, .slice A l.length c] 39) := ⟨_, rfl⟩
    have hb0 : Below w.heap.size w w0 := by rw [hw0]; exact ba1 _ _
    have kk : Bk w0 w.heap.size 39 #[.int .u8 8, .string nm, .string to_, .string tx, .int .i64 n, .slice A l.length c] := by rw [hw0]; exact Bk.new _ _ _
    have g0 := kk.cell 0
    have lk := kk.lt
    have hvb := (show Calls Tryz.prog 45 #[.int .u8 8] w0 fun e w' => e = .returned (.string (blB (verbB 8))) ∧ w' = w0 from verb_any 8 w0 (by omega) (hV.below hb0 hG))
    have hvs : (blB (verbB 8)).size ≤ 6 := by rw [blB_size]; exact verb_len 8
    obtain ⟨V, hVV⟩ : ∃ V, V = blB (verbB 8) := ⟨_, rfl⟩
    rw [← hVV] at hvb hvs
    have HVb := hide hvb
    have HVV := hide hVV
    have HW0 := hide hw0
    have HB0 := hide hb0
    have HKK := hide kk
    obtain ⟨i0, hi, hz0, hz1, hz2⟩ := info_parts info_str
    clear hvb hVV hb0 kk hV
    go_enter Tryz.func24, Tryz.ntmps24
    go_upto_region 2 with (go_at_call 45; rw [← HW0.out]; refine Calls.mono HVb.out ?_; rintro e w1 ⟨rfl, rfl⟩)
    rw [← HW0.out]
    have hsz : w1.heap.size = w.heap.size + 1 := by rw [HW0.out]; simp
    obtain ⟨W2, hW2⟩ : ∃ W2, W2 = w1.alloc (.cells #[.string V] 9) := ⟨_, rfl⟩
    rw [← hW2]
    have kv : Bk W2 (w.heap.size + 1) 9 #[.string V] := by rw [hW2, ← hsz]; exact Bk.new _ _ _
    have ho := own_lit1 (base := w.heap.size) kv (by omega)
    have hb2 : Below w.heap.size w W2 := by rw [hW2]; exact HB0.out.trans ((ba1 _ _).mono (by omega))
    have kk2 := HKK.out.keep (show Below w1.heap.size w1 W2 by rw [hW2]; exact ba1 _ _)
    have y0 := kk2.cell 0
    have y1 := kk2.cell 4
    have ly := kk2.lt
    have HO := hide ho
    have HB2 := hide hb2
    have hkk := fint_any n W2 hn1 hn2 (pw10_below hP hb2)
    obtain ⟨Q, hQ⟩ : ∃ Q, Q = blB (Lib.itoa n) := ⟨_, rfl⟩
    rw [← hQ] at hkk
    have hQs : Q.size ≤ 400000002 := by
      rw [hQ, blB_size]
      have := itoa_length n hn1 hn2
      omega
    have HQ := hide hkk
    have HQe := hide hQ
    have y5 : ¬ 9223372036854775807 < (blB (Lib.join [bl V, bl Q] [32])).size + 1 := by
      rw [blB_size]
      simp [Lib.join, List.intercalate, bl_size]
      omega
    have hW2z := hb2.size
    clear hsz kv ho hb2 kk2 hkk hQ hW2 hw0 g0 lk hA hP
    go_wp2_with (first
      | (go_at_call 46; refine Calls.mono HQ.out ?_; rintro e w3 ⟨rfl, hb3⟩; have HO3 := hide (own_keep HO.out hb3); have hz3 := hb3.size; have HB3 := hide (HB2.out.trans (hb3.mono HB2.out.size)); clear hb3)
      | (at_builtin; refine wpList_append_own _ rfl (.tmp 45) (.tmp 49) 94 rfl w.heap.size 9 i0 (.string ⟨#[]⟩) 1 16 Tryz.underlying94 hi hz0 hz1 hz2 rfl (by decide) _ _ _ rfl (HO3.out.alloc _) ⟨_, 0, none⟩ 1 1 [.string Q] rfl rfl (cell_one_new _ _ _) (by intro u hu; simp at hu; subst hu; rfl) (by unfold maxLen; omega) (by omega) (by simp; omega) ?_; intro v4 w4 hown4 hgr4 _; have hb4 : Below w.heap.size w w4 := (HB3.out.alloc HB3.out.size _).grown hgr4 (by simp; omega) (fun g hg => (HO3.out.lt g hg).1); obtain ⟨A4, c4, rfl⟩ := own_formk hown4; have HO4 := hide hown4; have HB4 := hide hb4; clear hown4 hgr4 hb4)
      | (go_at_call 48; refine Calls.mono (join_own (xs := [V, Q]) HO4.out rfl (by decide) (by decide) (by intro x hx; simp at hx; rcases hx with rfl | rfl <;> omega)) ?_; rintro e w5 ⟨rfl, hb5⟩; have HB5 := hide (HB4.out.trans (hb5.mono HB4.out.size)); clear hb5))
    go_ret
    have he : Lib.join [bl V, bl Q] [32] = lineB ⟨8, nm, to_, tx, n, l⟩ := by rw [HVV.out, HQe.out, bl_blB, bl_blB]; simp [Lib.join, List.intercalate, lineB, argsB]
    exact ⟨by show Ending.returned (.string (blB (Lib.join [bl V, bl Q] [32]) ++ (⟨#[10]⟩ : ByteArray))) = _; rw [he, show (⟨#[10]⟩ : ByteArray) = blB [10] from rfl, blB_app], HB5.out⟩
  · obtain ⟨w0, hw0⟩ : ∃ w0, w0 = w.alloc (.cells #[.int .u8 9, .string nm, .string to_, .string tx, .int .i64 n, .slice A l.length c] 39) := ⟨_, rfl⟩
    have hb0 : Below w.heap.size w w0 := by rw [hw0]; exact ba1 _ _
    have kk : Bk w0 w.heap.size 39 #[.int .u8 9, .string nm, .string to_, .string tx, .int .i64 n, .slice A l.length c] := by rw [hw0]; exact Bk.new _ _ _
    have g0 := kk.cell 0
    have lk := kk.lt
    have hvb := (show Calls Tryz.prog 45 #[.int .u8 9] w0 fun e w' => e = .returned (.string (blB (verbB 9))) ∧ w' = w0 from verb_any 9 w0 (by omega) (hV.below hb0 hG))
    have hvs : (blB (verbB 9)).size ≤ 6 := by rw [blB_size]; exact verb_len 9
    obtain ⟨V, hVV⟩ : ∃ V, V = blB (verbB 9) := ⟨_, rfl⟩
    rw [← hVV] at hvb hvs
    have HVb := hide hvb
    have HVV := hide hVV
    have HW0 := hide hw0
    have HB0 := hide hb0
    have HKK := hide kk
    obtain ⟨i0, hi, hz0, hz1, hz2⟩ := info_parts info_str
    clear hvb hVV hb0 kk hV
    go_enter Tryz.func24, Tryz.ntmps24
    go_upto_region 2 with (go_at_call 45; rw [← HW0.out]; refine Calls.mono HVb.out ?_; rintro e w1 ⟨rfl, rfl⟩)
    rw [← HW0.out]
    have hsz : w1.heap.size = w.heap.size + 1 := by rw [HW0.out]; simp
    obtain ⟨W2, hW2⟩ : ∃ W2, W2 = w1.alloc (.cells #[.string V] 9) := ⟨_, rfl⟩
    rw [← hW2]
    have kv : Bk W2 (w.heap.size + 1) 9 #[.string V] := by rw [hW2, ← hsz]; exact Bk.new _ _ _
    have ho := own_lit1 (base := w.heap.size) kv (by omega)
    have hb2 : Below w.heap.size w W2 := by rw [hW2]; exact HB0.out.trans ((ba1 _ _).mono (by omega))
    have kk2 := HKK.out.keep (show Below w1.heap.size w1 W2 by rw [hW2]; exact ba1 _ _)
    have y0 := kk2.cell 0
    have y1 := kk2.cell 4
    have ly := kk2.lt
    have HO := hide ho
    have HB2 := hide hb2
    have hkk := fint_any n W2 hn1 hn2 (pw10_below hP hb2)
    obtain ⟨Q, hQ⟩ : ∃ Q, Q = blB (Lib.itoa n) := ⟨_, rfl⟩
    rw [← hQ] at hkk
    have hQs : Q.size ≤ 400000002 := by
      rw [hQ, blB_size]
      have := itoa_length n hn1 hn2
      omega
    have HQ := hide hkk
    have HQe := hide hQ
    have y5 : ¬ 9223372036854775807 < (blB (Lib.join [bl V, bl Q] [32])).size + 1 := by
      rw [blB_size]
      simp [Lib.join, List.intercalate, bl_size]
      omega
    have hW2z := hb2.size
    clear hsz kv ho hb2 kk2 hkk hQ hW2 hw0 g0 lk hA hP
    go_wp2_with (first
      | (go_at_call 46; refine Calls.mono HQ.out ?_; rintro e w3 ⟨rfl, hb3⟩; have HO3 := hide (own_keep HO.out hb3); have hz3 := hb3.size; have HB3 := hide (HB2.out.trans (hb3.mono HB2.out.size)); clear hb3)
      | (at_builtin; refine wpList_append_own _ rfl (.tmp 45) (.tmp 49) 94 rfl w.heap.size 9 i0 (.string ⟨#[]⟩) 1 16 Tryz.underlying94 hi hz0 hz1 hz2 rfl (by decide) _ _ _ rfl (HO3.out.alloc _) ⟨_, 0, none⟩ 1 1 [.string Q] rfl rfl (cell_one_new _ _ _) (by intro u hu; simp at hu; subst hu; rfl) (by unfold maxLen; omega) (by omega) (by simp; omega) ?_; intro v4 w4 hown4 hgr4 _; have hb4 : Below w.heap.size w w4 := (HB3.out.alloc HB3.out.size _).grown hgr4 (by simp; omega) (fun g hg => (HO3.out.lt g hg).1); obtain ⟨A4, c4, rfl⟩ := own_formk hown4; have HO4 := hide hown4; have HB4 := hide hb4; clear hown4 hgr4 hb4)
      | (go_at_call 48; refine Calls.mono (join_own (xs := [V, Q]) HO4.out rfl (by decide) (by decide) (by intro x hx; simp at hx; rcases hx with rfl | rfl <;> omega)) ?_; rintro e w5 ⟨rfl, hb5⟩; have HB5 := hide (HB4.out.trans (hb5.mono HB4.out.size)); clear hb5))
    go_ret
    have he : Lib.join [bl V, bl Q] [32] = lineB ⟨9, nm, to_, tx, n, l⟩ := by rw [HVV.out, HQe.out, bl_blB, bl_blB]; simp [Lib.join, List.intercalate, lineB, argsB]
    exact ⟨by show Ending.returned (.string (blB (Lib.join [bl V, bl Q] [32]) ++ (⟨#[10]⟩ : ByteArray))) = _; rw [he, show (⟨#[10]⟩ : ByteArray) = blB [10] from rfl, blB_app], HB5.out⟩
  · by_cases hl0 : l.length = 0
    · have HL0 := hide hl0
      clear hl0
      obtain ⟨w0, hw0⟩ : ∃ w0, w0 = w.alloc (.cells #[.int .u8 10, .string nm, .string to_, .string tx, .int .i64 n, .slice A l.length c] 39) := ⟨_, rfl⟩
      have hb0 : Below w.heap.size w w0 := by rw [hw0]; exact ba1 _ _
      have kk : Bk w0 w.heap.size 39 #[.int .u8 10, .string nm, .string to_, .string tx, .int .i64 n, .slice A l.length c] := by rw [hw0]; exact Bk.new _ _ _
      have g0 := kk.cell 0
      have lk := kk.lt
      have hvb := (show Calls Tryz.prog 45 #[.int .u8 10] w0 fun e w' => e = .returned (.string (blB (verbB 10))) ∧ w' = w0 from verb_any 10 w0 (by omega) (hV.below hb0 hG))
      have hvs : (blB (verbB 10)).size ≤ 6 := by rw [blB_size]; exact verb_len 10
      obtain ⟨V, hVV⟩ : ∃ V, V = blB (verbB 10) := ⟨_, rfl⟩
      rw [← hVV] at hvb hvs
      have HVb := hide hvb
      have HVV := hide hVV
      have HW0 := hide hw0
      have HB0 := hide hb0
      have HKK := hide kk
      obtain ⟨i0, hi, hz0, hz1, hz2⟩ := info_parts info_str
      clear hvb hVV hb0 kk hV
      go_enter Tryz.func24, Tryz.ntmps24
      go_upto_region 2 with (go_at_call 45; rw [← HW0.out]; refine Calls.mono HVb.out ?_; rintro e w1 ⟨rfl, rfl⟩)
      rw [← HW0.out]
      have hsz : w1.heap.size = w.heap.size + 1 := by rw [HW0.out]; simp
      obtain ⟨W2, hW2⟩ : ∃ W2, W2 = w1.alloc (.cells #[.string V] 9) := ⟨_, rfl⟩
      rw [← hW2]
      have kv : Bk W2 (w.heap.size + 1) 9 #[.string V] := by rw [hW2, ← hsz]; exact Bk.new _ _ _
      have ho := own_lit1 (base := w.heap.size) kv (by omega)
      have hb2 : Below w.heap.size w W2 := by rw [hW2]; exact HB0.out.trans ((ba1 _ _).mono (by omega))
      have kk2 := HKK.out.keep (show Below w1.heap.size w1 W2 by rw [hW2]; exact ba1 _ _)
      have y0 := kk2.cell 0
      have y1 := kk2.cell 5
      have ly := kk2.lt
      have HO := hide ho
      have HB2 := hide hb2
      have y5 : ¬ 9223372036854775807 < (blB (Lib.join [bl V] [32])).size + 1 := by
        rw [blB_size]
        simp [Lib.join, List.intercalate, bl_size]
        omega
      have hW2z := hb2.size
      have hl0 := HL0.out
      rw [hl0] at y1
      clear hsz kv ho hb2 kk2 hW2 hw0 g0 lk
      go_wp2_with (first
        | (go_at_call 48; refine Calls.mono (join_own (xs := [V]) HO.out rfl (by decide) (by decide) (by intro x hx; simp at hx; subst hx; omega)) ?_; rintro e w5 ⟨rfl, hb5⟩; have HB5 := hide (HB2.out.trans (hb5.mono HB2.out.size)); clear hb5))
      go_ret
      have he : Lib.join [bl V] [32] = lineB ⟨10, nm, to_, tx, n, l⟩ := by rw [List.eq_nil_of_length_eq_zero hl0]; rw [HVV.out, bl_blB]; simp [Lib.join, List.intercalate, lineB, argsB]
      exact ⟨by show Ending.returned (.string (blB (Lib.join [bl V] [32]) ++ (⟨#[10]⟩ : ByteArray))) = _; rw [he, show (⟨#[10]⟩ : ByteArray) = blB [10] from rfl, blB_app], HB5.out⟩
    · obtain ⟨w0, hw0⟩ : ∃ w0, w0 = w.alloc (.cells #[.int .u8 10, .string nm, .string to_, .string tx, .int .i64 n, .slice A l.length c] 39) := ⟨_, rfl⟩
      have hb0 : Below w.heap.size w w0 := by rw [hw0]; exact ba1 _ _
      have kk : Bk w0 w.heap.size 39 #[.int .u8 10, .string nm, .string to_, .string tx, .int .i64 n, .slice A l.length c] := by rw [hw0]; exact Bk.new _ _ _
      have g0 := kk.cell 0
      have lk := kk.lt
      have hvb := (show Calls Tryz.prog 45 #[.int .u8 10] w0 fun e w' => e = .returned (.string (blB (verbB 10))) ∧ w' = w0 from verb_any 10 w0 (by omega) (hV.below hb0 hG))
      have hvs : (blB (verbB 10)).size ≤ 6 := by rw [blB_size]; exact verb_len 10
      obtain ⟨V, hVV⟩ : ∃ V, V = blB (verbB 10) := ⟨_, rfl⟩
      rw [← hVV] at hvb hvs
      have HVb := hide hvb
      have HVV := hide hVV
      have HW0 := hide hw0
      have HB0 := hide hb0
      have HKK := hide kk
      obtain ⟨i0, hi, hz0, hz1, hz2⟩ := info_parts info_str
      clear hvb hVV hb0 kk hV
      go_enter Tryz.func24, Tryz.ntmps24
      go_upto_region 2 with (go_at_call 45; rw [← HW0.out]; refine Calls.mono HVb.out ?_; rintro e w1 ⟨rfl, rfl⟩)
      rw [← HW0.out]
      have hsz : w1.heap.size = w.heap.size + 1 := by rw [HW0.out]; simp
      obtain ⟨W2, hW2⟩ : ∃ W2, W2 = w1.alloc (.cells #[.string V] 9) := ⟨_, rfl⟩
      rw [← hW2]
      have kv : Bk W2 (w.heap.size + 1) 9 #[.string V] := by rw [hW2, ← hsz]; exact Bk.new _ _ _
      have ho := own_lit1 (base := w.heap.size) kv (by omega)
      have hb2 : Below w.heap.size w W2 := by rw [hW2]; exact HB0.out.trans ((ba1 _ _).mono (by omega))
      have kk2 := HKK.out.keep (show Below w1.heap.size w1 W2 by rw [hW2]; exact ba1 _ _)
      have y0 := kk2.cell 0
      have y1 := kk2.cell 5
      have ly := kk2.lt
      have HO := hide ho
      have HB2 := hide hb2
      obtain ⟨L, hL⟩ : ∃ L, L = l := ⟨_, rfl⟩
      have hL0 : 0 < L.length := by rw [hL]; omega
      have hLn : L ≠ [] := by rintro rfl; simp at hL0
      have hkA : Rd W2 W2.heap.size A (L.map .bool) := by rw [hL]; exact (hA.below hb2).more hb2.size
      rw [← hL] at h4 y1
      have hkk := kept_any L A c W2 hkA h4
      have HLe := hide hL
      obtain ⟨Q, hQ⟩ : ∃ Q, Q = blB (keptB L) := ⟨_, rfl⟩
      rw [← hQ] at hkk
      have hQs : Q.size ≤ 400000002 := by
        rw [hQ, blB_size]
        unfold keptB
        rw [List.length_map]
        omega
      have HQ := hide hkk
      have HQe := hide hQ
      have y5 : ¬ 9223372036854775807 < (blB (Lib.join [bl V, bl Q] [32])).size + 1 := by
        rw [blB_size]
        simp [Lib.join, List.intercalate, bl_size]
        omega
      have hW2z := hb2.size
      have hL9 : ¬ (L.length : Int) ≤ 0 := by omega
      rw [← hL]
      clear hl0 hsz kv ho hb2 kk2 hkk hkA hQ hW2 hw0 g0 lk hA hL
      go_wp2_with (first
        | (go_at_call 47; refine Calls.mono HQ.out ?_; rintro e w3 ⟨rfl, hb3⟩; have HO3 := hide (own_keep HO.out hb3); have hz3 := hb3.size; have HB3 := hide (HB2.out.trans (hb3.mono HB2.out.size)); clear hb3)
        | (at_builtin; refine wpList_append_own _ rfl (.tmp 57) (.tmp 61) 94 rfl w.heap.size 9 i0 (.string ⟨#[]⟩) 1 16 Tryz.underlying94 hi hz0 hz1 hz2 rfl (by decide) _ _ _ rfl (HO3.out.alloc _) ⟨_, 0, none⟩ 1 1 [.string Q] rfl rfl (cell_one_new _ _ _) (by intro u hu; simp at hu; subst hu; rfl) (by unfold maxLen; omega) (by omega) (by simp; omega) ?_; intro v4 w4 hown4 hgr4 _; have hb4 : Below w.heap.size w w4 := (HB3.out.alloc HB3.out.size _).grown hgr4 (by simp; omega) (fun g hg => (HO3.out.lt g hg).1); obtain ⟨A4, c4, rfl⟩ := own_formk hown4; have HO4 := hide hown4; have HB4 := hide hb4; clear hown4 hgr4 hb4)
        | (go_at_call 48; refine Calls.mono (join_own (xs := [V, Q]) HO4.out rfl (by decide) (by decide) (by intro x hx; simp at hx; rcases hx with rfl | rfl <;> omega)) ?_; rintro e w5 ⟨rfl, hb5⟩; have HB5 := hide (HB4.out.trans (hb5.mono HB4.out.size)); clear hb5))
      go_ret
      have he : Lib.join [bl V, bl Q] [32] = lineB ⟨10, nm, to_, tx, n, l⟩ := by rw [← HLe.out, HVV.out, HQe.out, bl_blB, bl_blB]; simp [Lib.join, List.intercalate, lineB, argsB, hLn]
      exact ⟨by show Ending.returned (.string (blB (Lib.join [bl V, bl Q] [32]) ++ (⟨#[10]⟩ : ByteArray))) = _; rw [he, show (⟨#[10]⟩ : ByteArray) = blB [10] from rfl, blB_app], HB5.out⟩
end Go.Proofs.YtahnnebpadbopaaGreatDoor
/- Walk: front.Write. -/
namespace Go.Proofs.YtahnnebpadbopaaGreatDoor
open Go.RowKit

theorem right_kind {s : Stp} (h : rightS s = true) : 1 ≤ s.kind ∧ s.kind ≤ 10 := ⟨(right_parts h).1, (right_parts h).2.1⟩
theorem VerbT.all {w w' : World} (h : VerbT w) (hG : 1 < w.heap.size) (hb : Below w.heap.size w w') : VerbT w' := h.below hb hG
theorem strL_blB (l : List UInt8) : strL (blB l) = nats l := by
  apply List.ext_getElem?
  intro i
  unfold nats
  rw [List.getElem?_map]
  rcases Nat.lt_or_ge i (blB l).size with g | g
  · have hl : i < l.length := by rw [← blB_size]; exact g
    rw [strL_get g, List.getElem?_eq_getElem hl, ← byt_of _ g]; rfl
  · have hl : l.length ≤ i := by rw [← blB_size]; exact g
    rw [List.getElem?_eq_none (by rw [strL_length]; exact g), List.getElem?_eq_none hl]; rfl
set_option maxRecDepth 100000 in
set_option maxHeartbeats 8000000 in
theorem fwrite_any (l : List Stp) (A : Option Addr) (c : Nat) (w : World) (hA : StsR w w.heap.size A l) (hs : SmS l) (hl : l.length ≤ 2000000) (hV : VerbT w) (hG : 1 < w.heap.size) (hP : Pw10 w) :
    Calls Tryz.prog 9 #[.slice A l.length c] w fun e w' => e = .returned (writeV (writeB l)) ∧ Below w.heap.size w w' := by
  obtain ⟨R, hR⟩ : ∃ R, R = writeB l := ⟨_, rfl⟩
  rw [← hR]
  have hR0 : R = wrF [] l := by rw [wrF_eq, hR]; cases writeB l <;> simp
  have HR0 := hide hR0
  have HA := hide hA
  have HS := hide hs
  have HV := hide hV
  have HP := hide hP
  have hnew := Bd.new w
  have HNew := hide (show Bd (w.alloc (.cells #[.pointer none, .slice none 0 0] 58)) w.heap.size (nats []) from hnew)
  clear hR hR0 hA hs hV hP hnew
  go_enter Tryz.func9, Tryz.ntmps9
  go_wp2_with fail
  go_loopw [9] (fun iv wr => ∃ (k : Nat) (o : List UInt8), iv = .int .i64 k ∧ k ≤ l.length ∧ Hid (R = wrF o (l.drop k)) ∧ Hid (Bd wr w.heap.size (nats o)) ∧ Hid (Below w.heap.size w wr) ∧ o.length ≤ 20000001 * k) (fun iv _ => l.length - (intOf iv).toNat)
  case atStart => exact ⟨0, [], rfl, by omega, HR0, HNew, hide (ba1 _ _), by simp⟩
  case round =>
    clear HR0 HNew
    obtain ⟨k, o, rfl, hk, hR, hbd, hbe, hol⟩ := hrel
    by_cases hlt : k < l.length
    · obtain ⟨s, hsk⟩ : ∃ s, l[k]? = some s := ⟨l[k], by simp [hlt]⟩
      obtain ⟨b, of, kv, rfl, hb, hkv, c0, c1, c2, c3, c4, c5⟩ := stp_cells (HA.out.below hbe.out) hsk
      have hbr : b < _ := Nat.lt_of_lt_of_le hb hbe.out.size
      obtain ⟨K, ck, rfl, hK⟩ := hkv
      have hsm := HS.out s (List.mem_of_getElem? hsk)
      have hz := hbe.out.size
      have hdr : l.drop k = s :: l.drop (k + 1) := by rw [List.drop_eq_getElem_cons hlt]; congr 1; rw [List.getElem?_eq_getElem hlt] at hsk; exact Option.some.inj hsk
      have hR2 : R = match rlineB s with
        | none => none
        | some t => wrF (o ++ (t ++ [10])) (l.drop (k + 1)) := by rw [hR.out, hdr]; rfl
      have hll := fun hf => line_len (s := s) hf hsm
      have hrk := fun h => right_kind (s := s) h
      obtain ⟨kind, nm, to_, tx, n, keep⟩ := s
      dsimp only at *
      have hrt := fun (W : World) => wRight_any kind nm to_ tx n keep K ck W (by omega) (by omega) (by omega) (by omega)
      obtain ⟨r, hr⟩ : ∃ r, r = rightS ⟨kind, nm, to_, tx, n, keep⟩ := ⟨_, rfl⟩
      rw [← hr] at hrt hrk
      obtain ⟨w0, hw0⟩ : ∃ w0, w0 = wr.alloc (.cells #[.int .u8 (kind : Nat), .string nm, .string to_, .string tx, .int .i64 n, .slice K keep.length ck] 39) := ⟨_, rfl⟩
      have hb0 : Below wr.heap.size wr w0 := by rw [hw0]; exact ba1 _ _
      have kk : Bk w0 wr.heap.size 39 #[.int .u8 (kind : Nat), .string nm, .string to_, .string tx, .int .i64 n, .slice K keep.length ck] := by rw [hw0]; exact Bk.new _ _ _
      have HRt := hide hrt
      have HW0 := hide hw0
      have HB0 := hide hb0
      have HKK := hide kk
      have HR := hide hr
      have HR2 := hide hR2
      have HHK := hide hK
      clear hrt hw0 hb0 kk hr hR2 hR hdr hsk
      by_cases hrf : r = true
      · subst hrf
        obtain ⟨k1, k10⟩ := hrk rfl
        by_cases hf : fitsN n = true
        · have hf1 := hll hf
          have hfn := hf
          unfold fitsN at hfn
          simp only [Bool.and_eq_true, decide_eq_true_eq] at hfn
          obtain ⟨n1, n2⟩ := hfn
          have n3 : ¬ (999999999 : Int) < n := by omega
          have n4 : ¬ n < (-999999999 : Int) := by omega
          obtain ⟨L, hL⟩ : ∃ L, L = lineB ⟨kind, nm, to_, tx, n, keep⟩ := ⟨_, rfl⟩
          have hrl : rlineB ⟨kind, nm, to_, tx, n, keep⟩ = some L := by unfold rlineB; rw [← HR.out, hL]; simp [hf]
          have hln := fun (W : World) (hW : Below w.heap.size w W) (hW2 : Below wr.heap.size wr W) => fline_any kind nm to_ tx n keep K ck W (by omega) (by omega) (by omega) (by omega) ((HHK.out.below (hW2.mono hz)).more (by have := hW2.size; omega)) (HV.out.all hG hW) (by have := hW.size; omega) (pw10_below HP.out hW) n1 n2 k1 k10
          rw [← hL] at hln hf1
          have h2 := HR2.out
          rw [hrl] at h2
          have h2' : R = wrF (o ++ (L ++ [10])) (l.drop (k + 1)) := h2
          have HR3 := hide h2'
          have HLn := hide hln
          have hsz : (strL (blB (L ++ [10]))).length ≤ 20000001 := by rw [strL_length]; show (blB (L ++ [10])).size ≤ _; rw [blB_size, List.length_append]; simp; omega
          have hzz : (nats o).length + (blB (L ++ [10])).size ≤ 100000000000000 := by rw [blB_size, nats_length, List.length_append]; simp; omega
          have hnn : nats (o ++ (L ++ [10])) = nats o ++ strL (blB (L ++ [10])) := by rw [nats_app, strL_blB]
          have HNN := hide hnn
          have HZZ := hide hzz
          clear hrl hL h2 h2' hln hsz hzz hnn hf hll hrk hsm
          go_wp2_with (first
            | (have hx := HB3; clear hx; go_at_call 23; refine Calls.mono (bwString _ _ _ _ (hbd.out.below HB3.out) HZZ.out) ?_; rintro e w4 ⟨⟨z4, rfl⟩, hbd4, hb4⟩; have HBD4 := hide (show Bd w4 w.heap.size (nats (o ++ (L ++ [10]))) by rw [HNN.out]; exact hbd4); have HB4 := hide ((hbe.out.trans (HB3.out.mono hz)).trans hb4); clear hbd4 hb4)
            | (have hx := HB2; clear hx; go_at_call 24; refine Calls.mono (HLn.out _ (hbe.out.trans (HB2.out.mono hz)) HB2.out) ?_; rintro e w3 ⟨rfl, hb3⟩; have HB3 := hide (HB2.out.trans (hb3.mono HB2.out.size)); clear hb3)
            | (go_at_call 22; rw [← HW0.out]; refine Calls.mono (HRt.out _) ?_; rintro e w2 ⟨rfl, hb2⟩; have k2 := HKK.out.keep hb2; have y0 := k2.cell 0; have y1 := k2.cell 1; have y2 := k2.cell 2; have y3 := k2.cell 3; have y4 := k2.cell 4; have y5 := k2.cell 5; have hz2 := hb2.size; have HB2 := hide (HB0.out.trans (hb2.mono HB0.out.size)); clear hb2 k2))
          exact ⟨⟨k + 1, o ++ (L ++ [10]), by simp, by omega, HR3, HBD4, HB4, by simp; omega⟩, by simp [intOf]; omega⟩
        · have h2 := HR2.out
          have hrl : rlineB ⟨kind, nm, to_, tx, n, keep⟩ = none := by unfold rlineB; rw [← HR.out]; simp [hf]
          rw [hrl] at h2
          have h2' : R = none := h2
          have HR3 := hide h2'
          have hfn : ¬ (-1000000000 < n ∧ n < 1000000000) := fun h => hf (by unfold fitsN; simp [h.1, h.2])
          clear hrl h2 h2' hf hll hsm
          by_cases n3 : (999999999 : Int) < n
          · clear hfn
            go_wp2_with ((go_at_call 22; rw [← HW0.out]; refine Calls.mono (HRt.out _) ?_; rintro e w2 ⟨rfl, hb2⟩; have k2 := HKK.out.keep hb2; have y4 := k2.cell 4; have HB2 := hide (HB0.out.trans (hb2.mono HB0.out.size)); clear hb2 k2))
            refine bodyPost_ret (v := .tuple #[.string ⟨#[]⟩, .int .i64 2]) (by simp [results, Tryz.results9, go_sem]) rfl ?_
            exact ⟨by rw [HR3.out]; rfl, hbe.out.trans (HB2.out.mono hz)⟩
          · have n4 : n < (-999999999 : Int) := by omega
            clear hfn
            go_wp2_with ((go_at_call 22; rw [← HW0.out]; refine Calls.mono (HRt.out _) ?_; rintro e w2 ⟨rfl, hb2⟩; have k2 := HKK.out.keep hb2; have y4 := k2.cell 4; have HB2 := hide (HB0.out.trans (hb2.mono HB0.out.size)); clear hb2 k2))
            refine bodyPost_ret (v := .tuple #[.string ⟨#[]⟩, .int .i64 2]) (by simp [results, Tryz.results9, go_sem]) rfl ?_
            exact ⟨by rw [HR3.out]; rfl, hbe.out.trans (HB2.out.mono hz)⟩
      · have hrf2 : r = false := by cases r <;> simp_all
        subst hrf2
        have h2 := HR2.out
        have hrl : rlineB ⟨kind, nm, to_, tx, n, keep⟩ = none := by unfold rlineB; rw [← HR.out]; simp
        rw [hrl] at h2
        have h2' : R = none := h2
        have HR3 := hide h2'
        clear hrl h2 h2' hll hsm hrk hrf
        go_wp2_with ((go_at_call 22; rw [← HW0.out]; refine Calls.mono (HRt.out _) ?_; rintro e w2 ⟨rfl, hb2⟩; have HB2 := hide (HB0.out.trans (hb2.mono HB0.out.size)); clear hb2))
        refine bodyPost_ret (v := .tuple #[.string ⟨#[]⟩, .int .i64 2]) (by simp [results, Tryz.results9, go_sem]) rfl ?_
        exact ⟨by rw [HR3.out]; rfl, hbe.out.trans (HB2.out.mono hz)⟩
    · obtain rfl : k = l.length := by omega
      have hRe : R = some o := by rw [hR.out, List.drop_of_length_le (by omega)]; rfl
      have HRe := hide hRe
      clear hRe hR hol
      go_wp2_with (go_at_call 25; refine Calls.mono (bStringN _ _ _ hbd.out) ?_; rintro e w3 ⟨rfl, hf⟩; have HF := hide (hbe.out.trans hf); clear hf)
      refine bodyPost_ret (v := .tuple #[.string (blB o), .int .i64 0]) (by simp [results, Tryz.results9, go_sem]) rfl ?_
      exact ⟨by rw [HRe.out]; rfl, HF.out⟩
end Go.Proofs.YtahnnebpadbopaaGreatDoor
/- Walks: (*front.reader).number. -/
namespace Go.Proofs.YtahnnebpadbopaaGreatDoor
open Go.RowKit

/-- What is laid of package-level variables, as far as 'front' asks for it. -/
structure Lay (w : World) : Prop where
  verb : VerbT w
  pow : Pw10 w
  syn : ∃ tp p, w.var? Tryz.prog "strconv.ErrSyntax" = some #[.iface tp p]
  rng : ∃ tp p, w.var? Tryz.prog "strconv.ErrRange" = some #[.iface tp p]
  max : ∃ m, w.cell? ⟨2, 0, none⟩ = some (.int .i64 m)
  ety : w.cell? ⟨0, 0, none⟩ = some (.iface 120 (.agg #[.pointer (some ⟨14, 43, none⟩)]))
  size : 14 ≤ w.heap.size
theorem var_belowG {w w' : World} {nm : String} {v : Array Value} {g : Nat} (h : w.var? Tryz.prog nm = some v) (hg : Tryz.prog.globalNamed nm = some g) (hlt : g < 14) (hb : Below 14 w w') : w'.var? Tryz.prog nm = some v := by
  unfold World.var? at *
  rw [hg] at h ⊢
  simp only [Option.bind_some] at h ⊢
  rw [hb.block g hlt]
  exact h
theorem Lay.below {w w' : World} (h : Lay w) (hb : Below 14 w w') : Lay w' := by
  obtain ⟨h1, h2, ⟨a, b, h3⟩, ⟨c, d, h4⟩, ⟨m, h5⟩, h7, h6⟩ := h
  refine ⟨h1.below hb (by decide), ?_, ⟨a, b, var_belowG h3 (g := 5) (by kernel_rfl) (by decide) hb⟩, ⟨c, d, var_belowG h4 (g := 6) (by kernel_rfl) (by decide) hb⟩, ⟨m, (hb.cell (by show _ < _; decide)).trans h5⟩, (hb.cell (by show _ < _; decide)).trans h7, Nat.le_trans h6 hb.size⟩
  have hg : Tryz.prog.globalNamed "internal/strconv.uint64pow10" = some 3 := by kernel_rfl
  unfold Pw10 Lib.TabIs World.var? at *
  rw [hg] at h2 ⊢
  simp only [Option.bind_some] at h2 ⊢
  rw [hb.block _ (by decide)]
  exact h2
theorem Lay.all {w w' : World} (h : Lay w) (hb : Below w.heap.size w w') : Lay w' := h.below (hb.mono h.size)
theorem Lay.fr {w w' : World} {g : Nat} (h : Lay w) (hb : Fr (fun k => k = g) w w') (hg : 14 ≤ g) : Lay w' := h.below (hb.toBelowB (fun k hk => by subst hk; exact hg) h.size)
/-- What ParseInt tells. -/
theorem pint_any (s : ByteArray) (w : World) (hs : s.size ≤ 100000000) (hE : Lay w) :
    Calls Tryz.prog 84 #[.string s, .int .i64 10, .int .i64 64] w fun e w' => (∃ (v : Int) (er : Value), e = .returned (.tuple #[.int .i64 v, er]) ∧ (Lib.parseIntB 64 (bl s) = .ok v ∧ er = .nilIface ∨ (∀ v, Lib.parseIntB 64 (bl s) ≠ .ok v) ∧ ∃ t p, er = .iface t p)) ∧ Below w.heap.size w w' := by
  obtain ⟨t1, p1, h1⟩ := hE.syn
  obtain ⟨t2, p2, h2⟩ := hE.rng
  cases hp : Lib.parseIntB 64 (bl s)
  case ok v =>
    refine Calls.mono (Tryz.strconv_ParseInt_10_at64_ok s (by omega) v hp w) ?_
    rintro e w' ⟨rfl, hw⟩
    refine ⟨⟨v, _, rfl, .inl ⟨rfl, rfl⟩⟩, ?_⟩
    rcases hw with rfl | ⟨t, rfl⟩
    · exact Below.refl _ _
    · exact Lib.bytesWorld_below _ _ _
  case range =>
    refine Calls.mono (Tryz.strconv_ParseInt_10_at64_range_var s (by omega) hp t2 p2 w h2) ?_
    rintro e w' ⟨N, rfl, _, _, hb⟩
    exact ⟨⟨_, _, rfl, .inr ⟨(by intro v h; cases h), _, _, rfl⟩⟩, hb⟩
  refine Calls.mono (Tryz.strconv_ParseInt_10_at64_no_var s (by omega) (fun v h => by rw [show s.data.toList = bl s from rfl, hp] at h; cases h) (fun h => by rw [show s.data.toList = bl s from rfl, hp] at h; cases h) t1 p1 w h1) ?_
  rintro e w' ⟨N, rfl, _, _, hb⟩
  exact ⟨⟨_, _, rfl, .inr ⟨(by intro v h; cases h), _, _, rfl⟩⟩, hb⟩
set_option maxRecDepth 100000 in
set_option maxHeartbeats 8000000 in
theorem rnum_any (g : Nat) (r : List UInt8 × Bool) (w : World) (h : LrAt w g r) (hs : r.1.length ≤ 100000000) (hE : Lay w) (hg : 14 ≤ g) :
    Calls Tryz.prog 57 #[.pointer (some ⟨g, 0, none⟩)] w fun e w' => (∃ v, e = .returned (.int .i64 v) ∧ ((rdNum r).2 = true → v = (rdNum r).1)) ∧ LrAt w' g ([], (rdNum r).2) ∧ Fr (fun k => k = g) w w' := by
  have hsp := space_any g r w h
  have hle := space_len r
  have hrn : rdNum r = ((numB (rdSpace r).1).getD 0, (rdSpace r).2 && (numB (rdSpace r).1).isSome) := rfl
  rw [hrn]
  obtain ⟨q, hq⟩ : ∃ q, q = rdSpace r := ⟨_, rfl⟩
  rw [← hq] at hsp hle ⊢
  obtain ⟨s, ok⟩ := q
  dsimp only at hle ⊢
  have hpi := fun (W : World) (hW : Fr (fun k => k = g) w W) => pint_any (blB s) W (by rw [← bl_size, bl_blB]; omega) (hE.fr hW hg)
  rw [bl_blB] at hpi
  have HSp := hide hsp
  have HPi := hide hpi
  have HE := hide hE
  clear hsp hrn hq h hle hs hpi hE
  go_enter Tryz.func57, Tryz.ntmps57
  go_wp2_with (first
    | (go_at_call 83; refine Calls.mono HSp.out ?_; rintro e w1 ⟨rfl, hl, hf⟩; have hl' : Bk w1 g 115 #[.string (blB s), .bool ok] := hl; obtain ⟨c0, c1⟩ := two_cells hl'; have lg := hl'.lt; have HL := hide hl'; have HF := hide hf; clear hl hf hl')
    | (go_at_call 84; refine Calls.mono (HPi.out _ HF.out) ?_; rintro e w2 ⟨⟨v, er, rfl, her⟩, hb2⟩; have k2 := HL.out.keep hb2; obtain ⟨d0, d1⟩ := two_cells k2; have f0 := k2.free 0; have f1 := k2.free 1; have lg2 := k2.lt; have HK2 := hide k2; have HF2 := hide (HF.out.trans (Fr.below hb2 (fun k => k = g)) (fun _ h => .inl h)); have HEr := hide her; clear k2 hb2 her))
  have HEnd := hide (show ∀ (W : World) (b : Bool), Fr (fun k => k = g) w W → Bk W g 115 #[.string (blB s), .bool b] → LrAt (W.setCell ⟨g, 0, none⟩ (.string ⟨#[]⟩)) g ([], b) ∧ Fr (fun k => k = g) w (W.setCell ⟨g, 0, none⟩ (.string ⟨#[]⟩)) from fun W b hf hk => ⟨hk.set_ 0 _, hf.setCell (p := ⟨g, 0, none⟩) (.inl rfl) _⟩)
  cases ok with
  | false =>
    clear HEr
    go_region
    go_wp2_with fail
    go_ret
    exact ⟨⟨_, rfl, fun h => by simp at h⟩, HEnd.out _ false ((HF2.out.drew).setCell (p := ⟨g, 1, none⟩) (.inl rfl) _) (HK2.out.set_ 1 _)⟩
  | true =>
    have hres : ∃ b : Bool, b = (numB s).isSome := ⟨_, rfl⟩
    rcases HEr.out with ⟨hp, rfl⟩ | ⟨hp, te, pe, rfl⟩
    · have HNm := hide (show numB s = if v ≤ 999999999 ∧ -999999999 ≤ v ∧ Lib.itoa v = s then some v else none by unfold numB; rw [hp])
      clear HEr hp hres
      by_cases n1 : v ≤ 999999999
      · by_cases n2 : -999999999 ≤ v
        · have hfi := fun W (hW : Lay W) => fint_any v W (by omega) (by omega) hW.pow
          obtain ⟨Q, hQ⟩ : ∃ Q, Q = blB (Lib.itoa v) := ⟨_, rfl⟩
          obtain ⟨S, hS⟩ : ∃ S, S = blB s := ⟨_, rfl⟩
          rw [← hQ] at hfi
          rw [← hS] at d0 HK2 HEnd
          have HFi := hide hfi
          have HL2 := hide (HE.out.fr HF2.out hg)
          have hqs : (Lib.itoa v = s) = (Q = S) := by rw [hQ, hS]; exact propext ⟨fun h => by rw [h], fun h => by have := congrArg bl h; simpa [bl_blB] using this⟩
          have HNm2 := hide (show numB s = if Q = S then some v else none by rw [HNm.out]; simp only [hqs, n1, n2, true_and])
          clear hfi hQ hS hqs HL c0 c1 HNm
          by_cases hqs : Q = S
          · have hn : numB s = some v := by rw [HNm2.out, if_pos hqs]
            have HN := hide hn
            clear HNm2 hn
            go_region_held3 (fun w' => w'.cell? ⟨g, 0, none⟩ = some (.string S) ∧ w'.cell? ⟨g, 1, none⟩ = some (.bool true)) (first | with_reducible exact ⟨d0, d1⟩ | exact ⟨(HK3.out.set_ 1 _).cell 0, (HK3.out.set_ 1 _).cell 1⟩ | go_keep)
              ((go_at_call 46; refine Calls.mono (HFi.out _ (HL2.out.all (below_nq _ 1))) ?_; rintro e w3 ⟨rfl, hb3⟩; have HK3 := hide (Bk.keep (show Bk w2.drew g _ _ from HK2.out) hb3); obtain ⟨d0, d1⟩ := two_cells HK3.out; have f0 := HK3.out.free 0; have f1 := HK3.out.free 1; have lg3 := HK3.out.lt; have HB3 := hide ((below_nq w2 1).trans (show Below w2.heap.size (w2.drewN 1) w3 from hb3)); clear hb3))
            go_wp2_with fail
            go_ret
            exact ⟨⟨_, rfl, fun h => by rw [HN.out]; rfl⟩, by have h2 := HEnd.out _ true ((HF2.out.trans (Fr.below HB3.out (fun k => k = g)) (fun _ h => .inl h)).setCell (p := ⟨g, 1, none⟩) (.inl rfl) _) (HK3.out.set_ 1 _); rw [HN.out]; exact h2⟩
          · have hn : numB s = none := by rw [HNm2.out, if_neg hqs]
            have hbe : (Q.toList == S.toList) = false := by rw [beq_eq_false_iff_ne]; exact fun e => hqs (toList_inj' e)
            have HN := hide hn
            clear HNm2 hn
            refine wp_region_noPanic ?_
            refine wp_region_held_drew (S := fun w' => w'.cell? ⟨g, 0, none⟩ = some (.string S)) (by kernel_rfl) ?_ (fun hHeld => ?_)
            · exact d0
            refine wpAnyH_take (i := 0) (oi := { dst := some 15, op := Op.move (Operand.tmp 0), type := _, pos := _, after := _, guard := _ }) (v := ?_) rfl (by kernel_rfl) (by kernel_rfl) (by kernel_rfl) (fun _ _ _ h => h) (Or.inl ⟨by rfl, ?_⟩) (by assumption) ?_
            rotate_left
            · intro w hSw
              try dsimp only at hSw
              first | (go_simp; done) | (go_simp; with_reducible rfl)
            try simp only [Act.put, List.setIfInBounds_toArray, List.set_cons_zero, List.set_cons_succ]
            refine wpAnyH_take (i := 1) (oi := { dst := some 16, op := Op.move (Operand.tmp 0), type := _, pos := _, after := _, guard := _ }) (v := ?_) rfl (by kernel_rfl) (by kernel_rfl) (by kernel_rfl) (fun _ _ _ h => h) (Or.inl ⟨by rfl, ?_⟩) (by assumption) ?_
            rotate_left
            · intro w hSw
              try dsimp only at hSw
              first | (go_simp; done) | (go_simp; with_reducible rfl)
            try simp only [Act.put, List.setIfInBounds_toArray, List.set_cons_zero, List.set_cons_succ]
            refine wpAnyH_take (i := 2) (oi := { dst := some 17, op := Op.nilCheck (Operand.tmp 16), type := _, pos := _, after := _, guard := _ }) (v := ?_) rfl (by kernel_rfl) (by kernel_rfl) (by kernel_rfl) (fun _ _ _ h => h) (Or.inl ⟨by rfl, ?_⟩) (by assumption) ?_
            rotate_left
            · intro w hSw
              try dsimp only at hSw
              first | (go_simp; done) | (go_simp; with_reducible rfl)
            try simp only [Act.put, List.setIfInBounds_toArray, List.set_cons_zero, List.set_cons_succ]
            refine wpAnyH_take (i := 3) (oi := { dst := some 18, op := Op.fieldAddr _ (Operand.tmp 17) 1, type := _, pos := _, after := _, guard := _ }) (v := ?_) rfl (by kernel_rfl) (by kernel_rfl) (by kernel_rfl) (fun _ _ _ h => h) (Or.inl ⟨by rfl, ?_⟩) (by assumption) ?_
            rotate_left
            · intro w hSw
              try dsimp only at hSw
              first | (go_simp; done) | (go_simp; with_reducible rfl)
            try simp only [Act.put, List.setIfInBounds_toArray, List.set_cons_zero, List.set_cons_succ]
            refine wpAnyH_ready (rs := [4]) (by kernel_rfl) (by simp) ?_
            refine AllReadyH.cons (o := { dst := some 19, op := Op.load _ (Operand.tmp 18), type := _, pos := _, after := _, guard := _ }) rfl (fun K hK => ?_) AllReadyH.nil
            go_simp
            refine hK.out _ _ ?_ (fun hHeld => ?_)
            · exact d0
            clear hK K
            try simp only [Act.put, List.setIfInBounds_toArray, List.set_cons_zero, List.set_cons_succ]
            refine wpAnyH_take (i := 5) (oi := { dst := some 20, op := Op.move (Operand.tmp 19), type := _, pos := _, after := _, guard := _ }) (v := ?_) rfl (by kernel_rfl) (by kernel_rfl) (by kernel_rfl) (fun _ _ _ h => h) (Or.inl ⟨by rfl, ?_⟩) (by assumption) ?_
            rotate_left
            · intro w hSw
              try dsimp only at hSw
              first | (go_simp; done) | (go_simp; with_reducible rfl)
            try simp only [Act.put, List.setIfInBounds_toArray, List.set_cons_zero, List.set_cons_succ]
            refine wpAnyH_take (i := 6) (oi := { dst := some 21, op := Op.move (Operand.tmp 4), type := _, pos := _, after := _, guard := _ }) (v := ?_) rfl (by kernel_rfl) (by kernel_rfl) (by kernel_rfl) (fun _ _ _ h => h) (Or.inl ⟨by rfl, ?_⟩) (by assumption) ?_
            rotate_left
            · intro w hSw
              try dsimp only at hSw
              first | (go_simp; done) | (go_simp; with_reducible rfl)
            try simp only [Act.put, List.setIfInBounds_toArray, List.set_cons_zero, List.set_cons_succ]
            refine wpAnyH_take (i := 7) (oi := { dst := some 22, op := Op.binOp BinOp.eql _ (Operand.tmp 21) (Operand.const Value.nilIface) _, type := _, pos := _, after := _, guard := _ }) (v := ?_) rfl (by kernel_rfl) (by kernel_rfl) (by kernel_rfl) (fun _ _ _ h => h) (Or.inl ⟨by rfl, ?_⟩) (by assumption) ?_
            rotate_left
            · intro w hSw
              try dsimp only at hSw
              first | (go_simp; done) | (go_simp; with_reducible rfl)
            try simp only [Act.put, List.setIfInBounds_toArray, List.set_cons_zero, List.set_cons_succ]
            refine wpAnyH_take (i := 8) (oi := { dst := some 23, op := Op.pick (Operand.tmp 20) (Operand.tmp 22) (Operand.const (Value.bool false)), type := _, pos := _, after := _, guard := _ }) (v := ?_) rfl (by kernel_rfl) (by kernel_rfl) (by kernel_rfl) (fun _ _ _ h => h) (Or.inl ⟨by rfl, ?_⟩) (by assumption) ?_
            rotate_left
            · intro w hSw
              try dsimp only at hSw
              first | (go_simp; done) | (go_simp; with_reducible rfl)
            try simp only [Act.put, List.setIfInBounds_toArray, List.set_cons_zero, List.set_cons_succ]
            refine wpAnyH_take (i := 9) (oi := { dst := some 24, op := Op.move (Operand.tmp 23), type := _, pos := _, after := _, guard := _ }) (v := ?_) rfl (by kernel_rfl) (by kernel_rfl) (by kernel_rfl) (fun _ _ _ h => h) (Or.inl ⟨by rfl, ?_⟩) (by assumption) ?_
            rotate_left
            · intro w hSw
              try dsimp only at hSw
              first | (go_simp; done) | (go_simp; with_reducible rfl)
            try simp only [Act.put, List.setIfInBounds_toArray, List.set_cons_zero, List.set_cons_succ]
            refine wpAnyH_take (i := 10) (oi := { dst := some 25, op := Op.move (Operand.tmp 3), type := _, pos := _, after := _, guard := _ }) (v := ?_) rfl (by kernel_rfl) (by kernel_rfl) (by kernel_rfl) (fun _ _ _ h => h) (Or.inl ⟨by rfl, ?_⟩) (by assumption) ?_
            rotate_left
            · intro w hSw
              try dsimp only at hSw
              first | (go_simp; done) | (go_simp; with_reducible rfl)
            try simp only [Act.put, List.setIfInBounds_toArray, List.set_cons_zero, List.set_cons_succ]
            refine wpAnyH_take (i := 11) (oi := { dst := some 26, op := Op.binOp BinOp.leq _ (Operand.tmp 25) (Operand.const (Value.int IntKind.i64 999999999)) _, type := _, pos := _, after := _, guard := _ }) (v := ?_) rfl (by kernel_rfl) (by kernel_rfl) (by kernel_rfl) (fun _ _ _ h => h) (Or.inl ⟨by rfl, ?_⟩) (by assumption) ?_
            rotate_left
            · intro w hSw
              try dsimp only at hSw
              first | (go_simp; done) | (go_simp; with_reducible rfl)
            try simp only [Act.put, List.setIfInBounds_toArray, List.set_cons_zero, List.set_cons_succ]
            refine wpAnyH_take (i := 12) (oi := { dst := some 27, op := Op.pick (Operand.tmp 24) (Operand.tmp 26) (Operand.const (Value.bool false)), type := _, pos := _, after := _, guard := _ }) (v := ?_) rfl (by kernel_rfl) (by kernel_rfl) (by kernel_rfl) (fun _ _ _ h => h) (Or.inl ⟨by rfl, ?_⟩) (by assumption) ?_
            rotate_left
            · intro w hSw
              try dsimp only at hSw
              first | (go_simp; done) | (go_simp; with_reducible rfl)
            try simp only [Act.put, List.setIfInBounds_toArray, List.set_cons_zero, List.set_cons_succ]
            refine wpAnyH_take (i := 13) (oi := { dst := some 28, op := Op.move (Operand.tmp 27), type := _, pos := _, after := _, guard := _ }) (v := ?_) rfl (by kernel_rfl) (by kernel_rfl) (by kernel_rfl) (fun _ _ _ h => h) (Or.inl ⟨by rfl, ?_⟩) (by assumption) ?_
            rotate_left
            · intro w hSw
              try dsimp only at hSw
              first | (go_simp; done) | (go_simp; with_reducible rfl)
            try simp only [Act.put, List.setIfInBounds_toArray, List.set_cons_zero, List.set_cons_succ]
            refine wpAnyH_take (i := 14) (oi := { dst := some 29, op := Op.move (Operand.tmp 3), type := _, pos := _, after := _, guard := _ }) (v := ?_) rfl (by kernel_rfl) (by kernel_rfl) (by kernel_rfl) (fun _ _ _ h => h) (Or.inl ⟨by rfl, ?_⟩) (by assumption) ?_
            rotate_left
            · intro w hSw
              try dsimp only at hSw
              first | (go_simp; done) | (go_simp; with_reducible rfl)
            try simp only [Act.put, List.setIfInBounds_toArray, List.set_cons_zero, List.set_cons_succ]
            refine wpAnyH_take (i := 15) (oi := { dst := some 30, op := Op.binOp BinOp.geq _ (Operand.tmp 29) (Operand.const (Value.int IntKind.i64 (-999999999))) _, type := _, pos := _, after := _, guard := _ }) (v := ?_) rfl (by kernel_rfl) (by kernel_rfl) (by kernel_rfl) (fun _ _ _ h => h) (Or.inl ⟨by rfl, ?_⟩) (by assumption) ?_
            rotate_left
            · intro w hSw
              try dsimp only at hSw
              first | (go_simp; done) | (go_simp; with_reducible rfl)
            try simp only [Act.put, List.setIfInBounds_toArray, List.set_cons_zero, List.set_cons_succ]
            refine wpAnyH_take (i := 16) (oi := { dst := some 31, op := Op.pick (Operand.tmp 28) (Operand.tmp 30) (Operand.const (Value.bool false)), type := _, pos := _, after := _, guard := _ }) (v := ?_) rfl (by kernel_rfl) (by kernel_rfl) (by kernel_rfl) (fun _ _ _ h => h) (Or.inl ⟨by rfl, ?_⟩) (by assumption) ?_
            rotate_left
            · intro w hSw
              try dsimp only at hSw
              first | (go_simp; done) | (go_simp; with_reducible rfl)
            try simp only [Act.put, List.setIfInBounds_toArray, List.set_cons_zero, List.set_cons_succ]
            refine wpAnyH_take (i := 17) (oi := { dst := some 32, op := Op.move (Operand.tmp 31), type := _, pos := _, after := _, guard := _ }) (v := ?_) rfl (by kernel_rfl) (by kernel_rfl) (by kernel_rfl) (fun _ _ _ h => h) (Or.inl ⟨by rfl, ?_⟩) (by assumption) ?_
            rotate_left
            · intro w hSw
              try dsimp only at hSw
              first | (go_simp; done) | (go_simp; with_reducible rfl)
            try simp only [Act.put, List.setIfInBounds_toArray, List.set_cons_zero, List.set_cons_succ]
            refine wpAnyH_take (i := 18) (oi := { dst := some 33, op := Op.move (Operand.tmp 3), type := _, pos := _, after := _, guard := _ }) (v := ?_) rfl (by kernel_rfl) (by kernel_rfl) (by kernel_rfl) (fun _ _ _ h => h) (Or.inl ⟨by rfl, ?_⟩) (by assumption) ?_
            rotate_left
            · intro w hSw
              try dsimp only at hSw
              first | (go_simp; done) | (go_simp; with_reducible rfl)
            try simp only [Act.put, List.setIfInBounds_toArray, List.set_cons_zero, List.set_cons_succ]
            refine wpAnyH_take (i := 20) (oi := { dst := some 35, op := Op.move (Operand.tmp 0), type := _, pos := _, after := _, guard := _ }) (v := ?_) rfl (by kernel_rfl) (by kernel_rfl) (by kernel_rfl) (fun _ _ _ h => h) (Or.inl ⟨by rfl, ?_⟩) (by assumption) ?_
            rotate_left
            · intro w hSw
              try dsimp only at hSw
              first | (go_simp; done) | (go_simp; with_reducible rfl)
            try simp only [Act.put, List.setIfInBounds_toArray, List.set_cons_zero, List.set_cons_succ]
            refine wpAnyH_take (i := 21) (oi := { dst := some 36, op := Op.nilCheck (Operand.tmp 35), type := _, pos := _, after := _, guard := _ }) (v := ?_) rfl (by kernel_rfl) (by kernel_rfl) (by kernel_rfl) (fun _ _ _ h => h) (Or.inl ⟨by rfl, ?_⟩) (by assumption) ?_
            rotate_left
            · intro w hSw
              try dsimp only at hSw
              first | (go_simp; done) | (go_simp; with_reducible rfl)
            try simp only [Act.put, List.setIfInBounds_toArray, List.set_cons_zero, List.set_cons_succ]
            refine wpAnyH_take (i := 22) (oi := { dst := some 37, op := Op.fieldAddr _ (Operand.tmp 36) 0, type := _, pos := _, after := _, guard := _ }) (v := ?_) rfl (by kernel_rfl) (by kernel_rfl) (by kernel_rfl) (fun _ _ _ h => h) (Or.inl ⟨by rfl, ?_⟩) (by assumption) ?_
            rotate_left
            · intro w hSw
              try dsimp only at hSw
              first | (go_simp; done) | (go_simp; with_reducible rfl)
            try simp only [Act.put, List.setIfInBounds_toArray, List.set_cons_zero, List.set_cons_succ]
            refine wpAnyH_take (i := 23) (oi := { dst := some 38, op := Op.load _ (Operand.tmp 37), type := _, pos := _, after := _, guard := _ }) (v := ?_) rfl (by kernel_rfl) (by kernel_rfl) (by kernel_rfl) (fun _ _ _ h => h) (Or.inl ⟨by rfl, ?_⟩) (by assumption) ?_
            rotate_left
            · intro w hSw
              try dsimp only at hSw
              first | (go_simp; done) | (go_simp; with_reducible rfl)
            try simp only [Act.put, List.setIfInBounds_toArray, List.set_cons_zero, List.set_cons_succ]
            refine wpAnyH_ready (rs := [19]) (by kernel_rfl) (by simp) ?_
            refine AllReadyH.cons rfl (fun K hK => ?_) AllReadyH.nil
            go_simp
            go_at_call 46; refine Calls.mono (HFi.out _ (HL2.out.all (below_nq _ 1))) ?_; rintro e w3 ⟨rfl, hb3⟩; have HK3 := hide (Bk.keep (show Bk w2.drew g _ _ from HK2.out) hb3); obtain ⟨d0, d1⟩ := two_cells HK3.out; have f0 := HK3.out.free 0; have f1 := HK3.out.free 1; have lg3 := HK3.out.lt; have HB3 := hide ((below_nq w2 1).trans (show Below w2.heap.size (w2.drewN 1) w3 from hb3)); clear hb3
            go_wp2_with fail
            refine hK.out _ _ ?_ (fun hHeld => ?_)
            · exact d0
            clear hK K
            try simp only [Act.put, List.setIfInBounds_toArray, List.set_cons_zero, List.set_cons_succ]
            refine wpAnyH_take (i := 24) (oi := { dst := some 39, op := Op.binOp BinOp.eql _ (Operand.tmp 34) (Operand.tmp 38) _, type := _, pos := _, after := _, guard := _ }) (v := ?_) rfl (by kernel_rfl) (by kernel_rfl) (by kernel_rfl) (fun _ _ _ h => h) (Or.inl ⟨by rfl, ?_⟩) (by assumption) ?_
            rotate_left
            · intro w hSw
              try dsimp only at hSw
              first | (go_simp; done) | (go_simp; with_reducible rfl)
            try simp only [Act.put, List.setIfInBounds_toArray, List.set_cons_zero, List.set_cons_succ]
            refine wpAnyH_take (i := 25) (oi := { dst := some 40, op := Op.pick (Operand.tmp 32) (Operand.tmp 39) (Operand.const (Value.bool false)), type := _, pos := _, after := _, guard := _ }) (v := ?_) rfl (by kernel_rfl) (by kernel_rfl) (by kernel_rfl) (fun _ _ _ h => h) (Or.inl ⟨by rfl, ?_⟩) (by assumption) ?_
            rotate_left
            · intro w hSw
              try dsimp only at hSw
              first | (go_simp; done) | (go_simp; with_reducible rfl)
            try simp only [Act.put, List.setIfInBounds_toArray, List.set_cons_zero, List.set_cons_succ]
            refine wpAnyH_take (i := 26) (oi := { dst := some 41, op := Op.nilCheck (Operand.tmp 15), type := _, pos := _, after := _, guard := _ }) (v := ?_) rfl (by kernel_rfl) (by kernel_rfl) (by kernel_rfl) (fun _ _ _ h => h) (Or.inl ⟨by rfl, ?_⟩) (by assumption) ?_
            rotate_left
            · intro w hSw
              try dsimp only at hSw
              first | (go_simp; done) | (go_simp; with_reducible rfl)
            try simp only [Act.put, List.setIfInBounds_toArray, List.set_cons_zero, List.set_cons_succ]
            refine wpAnyH_take (i := 27) (oi := { dst := some 42, op := Op.fieldAddr _ (Operand.tmp 41) 1, type := _, pos := _, after := _, guard := _ }) (v := ?_) rfl (by kernel_rfl) (by kernel_rfl) (by kernel_rfl) (fun _ _ _ h => h) (Or.inl ⟨by rfl, ?_⟩) (by assumption) ?_
            rotate_left
            · intro w hSw
              try dsimp only at hSw
              first | (go_simp; done) | (go_simp; with_reducible rfl)
            try simp only [Act.put, List.setIfInBounds_toArray, List.set_cons_zero, List.set_cons_succ]
            refine wpAnyH_ready (rs := [28]) (by kernel_rfl) (by simp) ?_
            refine AllReadyH.cons (o := { dst := none, op := Op.store _ (Operand.tmp 42) (Operand.tmp 40), type := _, pos := _, after := _, guard := _ }) rfl (fun K hK => ?_) AllReadyH.nil
            go_simp
            refine hK.out _ _ ?_ (fun hHeld => ?_)
            · exact (HK3.out.set_ 1 _).cell 0
            clear hK K
            try simp only [Act.put, List.setIfInBounds_toArray, List.set_cons_zero, List.set_cons_succ]
            refine wpAnyH_done (by kernel_rfl) ?_ _
            refine NoPanic.normal ?_
            go_wp2_with fail
            go_ret
            exact ⟨⟨_, rfl, fun h => by rw [HN.out] at h; simp at h⟩, by have h2 := HEnd.out _ false ((HF2.out.trans (Fr.below HB3.out (fun k => k = g)) (fun _ h => .inl h)).setCell (p := ⟨g, 1, none⟩) (.inl rfl) _) (HK3.out.set_ 1 _); rw [HN.out]; exact h2⟩
        · have HN := hide (show numB s = none by rw [HNm.out, if_neg (by omega)])
          clear HNm
          go_region
          go_wp2_with fail
          go_ret
          exact ⟨⟨_, rfl, fun h => by rw [HN.out] at h; simp at h⟩, by have h2 := HEnd.out _ false ((HF2.out.drew).setCell (p := ⟨g, 1, none⟩) (.inl rfl) _) (HK2.out.set_ 1 _); rw [HN.out]; exact h2⟩
      · have HN := hide (show numB s = none by rw [HNm.out, if_neg (by omega)])
        clear HNm
        go_region
        go_wp2_with fail
        go_ret
        exact ⟨⟨_, rfl, fun h => by rw [HN.out] at h; simp at h⟩, by have h2 := HEnd.out _ false ((HF2.out.drew).setCell (p := ⟨g, 1, none⟩) (.inl rfl) _) (HK2.out.set_ 1 _); rw [HN.out]; exact h2⟩
    · have HN := hide (show numB s = none by
        unfold numB
        cases hq : Lib.parseIntB 64 s
        · rename_i v
          exact absurd hq (hp v)
        · rfl
        · rfl)
      clear hp HEr hres
      go_region
      go_wp2_with fail
      go_ret
      exact ⟨⟨_, rfl, fun h => by rw [HN.out] at h; simp at h⟩, by have h2 := HEnd.out _ false ((HF2.out.drew).setCell (p := ⟨g, 1, none⟩) (.inl rfl) _) (HK2.out.set_ 1 _); rw [HN.out]; exact h2⟩
end Go.Proofs.YtahnnebpadbopaaGreatDoor
