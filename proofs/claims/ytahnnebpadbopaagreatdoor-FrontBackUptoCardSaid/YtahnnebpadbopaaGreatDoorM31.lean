/- Lemmas for the row: FsX, FsG, FsJ, FsH, FsI, FsK, FsL, FsM, FsL2, FsL3. -/
import Derived.Test.YtahnnebpadbopaaGreatDoorM16
import Derived.Test.YtahnnebpadbopaaGreatDoorM19
import Derived.Test.YtahnnebpadbopaaGreatDoorM22
import Derived.Test.YtahnnebpadbopaaGreatDoorM27
import Derived.Test.YtahnnebpadbopaaGreatDoorM30
import Derived.Deep.RegionHeld3
import Derived.Lib.QuietBelow
set_option linter.unusedVariables false
set_option linter.unusedSimpArgs false
/- Walk: front.Run at lives32's script (printed by gen_fsx.py). -/
namespace Go.Proofs.YtahnnebpadbopaaGreatDoor
open Go.RowKit

def lvO1 : ByteArray := ⟨#[111, 107]⟩
def lvO2 : ByteArray := blB ([111, 107, 32] ++ quoteB [120, 121])
def lvOut (k : Nat) : List ByteArray := [lvO1, lvO2].take k
def lvD (k : Nat) : Dsk := if k = 0 then lvD0 else lvD1
def lvX : ByteArray := blB (quoteB [97])
theorem join_ownN {w : World} {base n c : Nat} {A : Option Addr} {xs : List ByteArray} (h : w.ownsRow base 9 1 (.slice A n c) n (xs.map .string)) (hn : xs.length = n) (hn0 : 0 < n) (hn3 : n ≤ 3) (hs : ∀ x ∈ xs, x.size ≤ 1000000000) :
    Calls Tryz.prog 48 #[.slice A n c, .string ⟨#[10]⟩] w fun e w' => e = .returned (.string (blB (Lib.join (xs.map bl) [10]))) ∧ Below w.heap.size w w' := by
  obtain ⟨g, rfl, hc⟩ := own_some h hn0
  have hcells := h.cells (g := g) rfl
  subst hn
  have hlen : (Lib.join (xs.map bl) [10]).length ≤ 3000000010 := by
    unfold Lib.join
    match xs, hn3, hs with
    | [], _, _ => simp
    | [a], _, hs => 
      have := hs a (by simp)
      simp [bl_size]; omega
    | [a, b], _, hs => 
      have h1 := hs a (by simp)
      have h2 := hs b (by simp)
      simp [List.intercalate, bl_size]; omega
    | [a, b, d], _, hs => 
      have h1 := hs a (by simp)
      have h2 := hs b (by simp)
      have h3 := hs d (by simp)
      simp [List.intercalate, bl_size]; omega
    | _ :: _ :: _ :: _ :: _, h, _ => simp at h
  exact Tryz.strings_Join g 0 c xs ⟨#[10]⟩ w (fun j x hx => by
    have := hcells j (.string x) (by rw [List.getElem?_map, hx]; rfl)
    rw [Addr.add_lit] at this
    exact this) (own_lt h g rfl) (by omega) hc (by show (Lib.join (xs.map bl) [10]).length ≤ _; omega)
theorem lv_join : blB (Lib.join (List.map bl [lvO1, lvO2, lvX]) [10]) = blB [111, 107, 10, 111, 107, 32, 34, 120, 121, 34, 10, 34, 97, 34] := by decide +kernel
def lvR : ByteArray := blB [111, 107, 10, 111, 107, 32, 34, 120, 121, 34, 10, 34, 97, 34, 10]
theorem far6 {w : World} {b g : Nat} (h : b ≠ g) {a0 a1 a2 a3 a4 a5 : Value} {j : Nat} {v : Value} (hv : w.cell? ⟨g, j, none⟩ = some v) : ((((((w.setCell ⟨b, 0, none⟩ a0).setCell ⟨b, 1, none⟩ a1).setCell ⟨b, 2, none⟩ a2).setCell ⟨b, 3, none⟩ a3).setCell ⟨b, 4, none⟩ a4).setCell ⟨b, 5, none⟩ a5).cell? ⟨g, j, none⟩ = some v := by
  rw [World.cell?_setCell_far _ _ _ _ h, World.cell?_setCell_far _ _ _ _ h, World.cell?_setCell_far _ _ _ _ h, World.cell?_setCell_far _ _ _ _ h, World.cell?_setCell_far _ _ _ _ h, World.cell?_setCell_far _ _ _ _ h, hv]
theorem own_apartX {w : World} {b1 b2 e1 e2 s1 s2 n1 n2 : Nat} {v1 v2 : Value} {x1 x2 : List Value} (h1 : w.ownsRow b1 e1 s1 v1 n1 x1) (h2 : w.ownsRow b2 e2 s2 v2 n2 x2) (hne : e1 ≠ e2) : v1.ownBlock = none ∨ v1.ownBlock ≠ v2.ownBlock := by
  rcases h1.2 with ⟨rfl, _⟩ | ⟨g, cap, cur, rfl, _, hg, _⟩
  · exact .inl rfl
  · rcases h2.2 with ⟨rfl, _⟩ | ⟨g2, cap2, cur2, rfl, _, hg2, _⟩
    · exact .inr (by simp [Value.ownBlock])
    · refine .inr fun e => ?_
      simp only [Value.ownBlock, Option.some.injEq] at e
      subst e
      rw [hg] at hg2
      injection hg2 with h
      injection h with _ h
      exact hne h
set_option maxRecDepth 100000 in
set_option maxHeartbeats 16000000 in
theorem run_lives (w : World) (hL : Lay w) :
    Calls Tryz.prog 26 #[.int .i64 40, .int .i64 24, .string (blB scL)] w fun e w' => e = .returned (.tuple #[.string lvR, .int .i64 0]) ∧ Below w.heap.size w w' := by
  have hp := fparse_any (blB scL) w (by rw [blB_size]; decide) hL
  rw [bl_blB, lv_parse] at hp
  dsimp only at hp
  have hmk := fun W => wmake_any 40 24 W
  rw [lv_make] at hmk
  dsimp only at hmk
  obtain ⟨S, hS⟩ : ∃ S, S = blB scL := ⟨_, rfl⟩
  rw [← hS] at hp ⊢
  have HP := hide hp
  have HMk := hide hmk
  have HL := hide hL
  clear hp hmk hL hS
  obtain ⟨i0, hi, hz0, hz1, hz2⟩ := info_parts info_str
  go_enter Tryz.func26, Tryz.ntmps26
  go_upto_region 8 with (first
    | (go_at_call 7; refine Calls.mono HP.out ?_; rintro e w1 ⟨⟨V1, rfl, hst⟩, hb1⟩; obtain ⟨A1, c1, rfl, hsr⟩ := hst.rd; have HSr := hide hsr; have HB1 := hide hb1; clear hst hsr hb1)
    | (go_at_call 49; refine Calls.mono (HMk.out _) ?_; rintro e w2 ⟨⟨V2, rfl, hq2⟩, hb2⟩; obtain ⟨AE0, cE0, AW0, cW0, rfl, h1, h2⟩ := hq2; have H1 := hide h1; have H2 := hide h2; have HSr := hide ((HSr.out.below hb2).more hb2.size); have hz2w := hb2.size; have HB2 := hide (HB1.out.trans (hb2.mono HB1.out.size)); clear hb2 h1 h2))
  obtain ⟨W4, hW4⟩ : ∃ W4, W4 = w2.alloc (.cells #[.int .i64 lvD0.size, .slice AE0 lvD0.exts.length cE0, .slice AW0 lvD0.waits.length cW0, .int .i64 lvD0.fuse, .bool lvD0.down, .int .i64 24] 104) := ⟨_, rfl⟩
  rw [← hW4]
  have kW4 : Bk W4 w2.heap.size 104 #[.int .i64 lvD0.size, .slice AE0 lvD0.exts.length cE0, .slice AW0 lvD0.waits.length cW0, .int .i64 lvD0.fuse, .bool lvD0.down, .int .i64 24] := by rw [hW4]; exact Bk.new _ _ _
  have hb4 : Below w2.heap.size w2 W4 := by rw [hW4]; exact ba1 _ _
  have HStart := hide (show ∃ AE cE AW cW, Bk W4 w2.heap.size 104 #[.int .i64 (lvD 0).size, .slice AE (lvD 0).exts.length cE, .slice AW (lvD 0).waits.length cW, .int .i64 (lvD 0).fuse, .bool (lvD 0).down, .int .i64 24] ∧ W4.ownsRow 0 156 2 (.slice AE (lvD 0).exts.length cE) (lvD 0).exts.length (flatE (lvD 0).exts) ∧ W4.ownsRow 0 217 3 (.slice AW (lvD 0).waits.length cW) (lvD 0).waits.length (flatW (lvD 0).waits) from ⟨AE0, cE0, AW0, cW0, kW4, own_keep H1.out hb4, own_keep H2.out hb4⟩)
  have HB4 := hide hb4
  have HNo := hide (World.ownsRow_nil W4 w2.heap.size 9 1)
  clear hW4 kW4 hb4 H1 H2
  go_wp2_with fail
  go_loopw [12, 42] (fun ov iv wr => ∃ (k : Nat), iv = .int .i64 k ∧ k ≤ 2 ∧ Hid (∃ AE cE AW cW, Bk wr w2.heap.size 104 #[.int .i64 (lvD k).size, .slice AE (lvD k).exts.length cE, .slice AW (lvD k).waits.length cW, .int .i64 (lvD k).fuse, .bool (lvD k).down, .int .i64 24] ∧ wr.ownsRow 0 156 2 (.slice AE (lvD k).exts.length cE) (lvD k).exts.length (flatE (lvD k).exts) ∧ wr.ownsRow 0 217 3 (.slice AW (lvD k).waits.length cW) (lvD k).waits.length (flatW (lvD k).waits)) ∧ Hid (wr.ownsRow w2.heap.size 9 1 ov k ((lvOut k).map .string)) ∧ Hid (Below w2.heap.size w2 wr)) (fun _ iv _ => 2 - (intOf iv).toNat)
  case atStart => exact ⟨0, rfl, by omega, HStart, HNo, HB4⟩
  case round =>
    clear HStart HNo HB4
    obtain ⟨k, rfl, hk, hBlk, hO, hB⟩ := hrel
    obtain ⟨AO, cO, rfl⟩ := own_formk hO.out
    by_cases hlt : k < 2
    · obtain ⟨sk, hsk⟩ : ∃ s, [lvS1, lvS2][k]? = some s := ⟨[lvS1, lvS2][k]'(by simpa using hlt), List.getElem?_eq_getElem _⟩
      obtain ⟨bb, oo, kv, rfl, hbb, hkv, c0, c1, c2, c3, c4, c5⟩ := stp_cells (HSr.out.below hB.out) hsk
      have hbr : bb < _ := Nat.lt_of_lt_of_le hbb hB.out.size
      obtain ⟨K, ck, rfl, hK⟩ := hkv
      obtain ⟨AE, cE, AW, cW, hkW, hE, hW⟩ := hBlk.out
      have hkl : (k : Int) < 2 := by omega
      obtain ⟨W5, hW5⟩ : ∃ W5, W5 = wr.alloc (.cells #[.int .u8 (sk.kind : Nat), .string sk.nm, .string sk.to_, .string sk.tx, .int .i64 sk.n, .slice K sk.keep.length ck] 39) := ⟨_, rfl⟩
      have HW5 := hide hW5
      have key : ∃ (txt o : ByteArray), (∀ W V, WvR W W.heap.size V (lvD k) 24 → Calls Tryz.prog 50 #[V, .agg #[.int .u8 (sk.kind : Nat), .string sk.nm, .string sk.to_, .string sk.tx, .int .i64 sk.n, .slice K sk.keep.length ck]] W fun e w' => (∃ V', e = .returned (.tuple #[V', .string txt, .int .i64 0]) ∧ WvQ w' V' (lvD (k + 1)) 24) ∧ Below W.heap.size W w') ∧ (∀ W, Calls Tryz.prog 51 #[.agg #[.int .u8 (sk.kind : Nat), .string sk.nm, .string sk.to_, .string sk.tx, .int .i64 sk.n, .slice K sk.keep.length ck], .string txt, .int .i64 0] W fun e w' => e = .returned (.string o) ∧ Below W.heap.size W w') ∧ lvOut (k + 1) = lvOut k ++ [o] := by
        have hk01 : k = 0 ∨ k = 1 := by omega
        rcases hk01 with rfl | rfl
        · obtain rfl : lvS1 = sk := Option.some.inj hsk
          refine ⟨⟨#[]⟩, lvO1, fun W V h => ?_, fun W => told_ok 1 _ _ _ _ _ _ _ _ _ (by decide), rfl⟩
          have := do_put V lvD0 24 ⟨#[97]⟩ ⟨#[120, 121]⟩ K ck W h lv_sz0 lv_w0 (by decide) (by decide) lv_may
          rw [show putD lvD0 ⟨#[97]⟩ 0 (⟨#[120, 121]⟩ : ByteArray).size ⟨#[120, 121]⟩ = (lvD1, 0) from lv_put] at this
          exact this
        · obtain rfl : lvS2 = sk := Option.some.inj hsk
          refine ⟨⟨#[120, 121]⟩, lvO2, fun W V h => ?_, fun W => told_get _ _ _ _ _ _ _ _ _ (by decide), rfl⟩
          have := do_get V lvD1 24 ⟨#[97]⟩ K ck W h lv_sz1 lv_w1 (by decide)
          rw [lv_get] at this
          exact this
      obtain ⟨txt, o, hdo, htold, hout⟩ := key
      have HDo := hide hdo
      have HTold := hide htold
      have HOut := hide hout
      have hb5 : Below wr.heap.size wr W5 := by rw [hW5]; exact ba1 _ _
      have k5 : Bk W5 wr.heap.size 39 #[.int .u8 (sk.kind : Nat), .string sk.nm, .string sk.to_, .string sk.tx, .int .i64 sk.n, .slice K sk.keep.length ck] := by rw [hW5]; exact Bk.new _ _ _
      have kg5 := hkW.keep hb5
      have hv5 : WvR W5 W5.heap.size (.agg #[.int .i64 (lvD k).size, .slice AE (lvD k).exts.length cE, .slice AW (lvD k).waits.length cW, .int .i64 (lvD k).fuse, .bool (lvD k).down, .int .i64 24]) (lvD k) 24 := ⟨AE, cE, AW, cW, rfl, own_rdk (own_keep hE hb5), own_rdk (own_keep hW hb5)⟩
      have HDo5 := hide (hdo W5 _ hv5)
      have HO5 := hide (own_keep hO.out hb5)
      have HB5 := hide (hB.out.trans (hb5.mono hB.out.size))
      have hgl : w2.heap.size < wr.heap.size := hkW.lt
      have s0 := k5.cell 0
      have s1 := k5.cell 1
      have s2 := k5.cell 2
      have s3 := k5.cell 3
      have s4 := k5.cell 4
      have s5 := k5.cell 5
      have g0 := kg5.cell 0
      have g1 := kg5.cell 1
      have g2 := kg5.cell 2
      have g3 := kg5.cell 3
      have g4 := kg5.cell 4
      have g5 := kg5.cell 5
      have l5 := k5.lt
      have lg5 := kg5.lt
      have HK5 := hide k5
      have HG5 := hide kg5
      clear hdo htold hout hb5 k5 kg5 hv5 hkW hE hW hK hsk hW5 HDo
      go_upto_region 11 with (fail)
      rw [← HW5.out]
      go_upto_region 12 with (go_at_call 50; refine Calls.mono HDo5.out ?_; rintro e w6 ⟨⟨V6, rfl, hq6⟩, hb6⟩; obtain ⟨AE6, cE6, AW6, cW6, rfl, h1, h2⟩ := hq6; have HE6 := hide h1; have HWW6 := hide h2; have HK6 := hide (HK5.out.keep hb6); have HG6 := hide (HG5.out.keep hb6); have HO6 := hide (own_keep HO5.out hb6); have HB6 := hide (HB5.out.trans (hb6.mono HB5.out.size)); have hz6 := hb6.size; clear h1 h2 hb6)
      obtain ⟨W7, hW7⟩ : ∃ W7, W7 = w6.alloc (.cells #[.int .i64 (lvD (k + 1)).size, .slice AE6 (lvD (k + 1)).exts.length cE6, .slice AW6 (lvD (k + 1)).waits.length cW6, .int .i64 (lvD (k + 1)).fuse, .bool (lvD (k + 1)).down, .int .i64 24] 104) := ⟨_, rfl⟩
      rw [← hW7]
      have hb7 : Below w6.heap.size w6 W7 := by rw [hW7]; exact ba1 _ _
      have k7 : Bk W7 w6.heap.size 104 #[.int .i64 (lvD (k + 1)).size, .slice AE6 (lvD (k + 1)).exts.length cE6, .slice AW6 (lvD (k + 1)).waits.length cW6, .int .i64 (lvD (k + 1)).fuse, .bool (lvD (k + 1)).down, .int .i64 24] := by rw [hW7]; exact Bk.new _ _ _
      have k14 := HK6.out.keep hb7
      have kg7 := HG6.out.keep hb7
      have s0 := k14.cell 0
      have s1 := k14.cell 1
      have s2 := k14.cell 2
      have s3 := k14.cell 3
      have s4 := k14.cell 4
      have s5 := k14.cell 5
      have u0 := k7.cell 0
      have u1 := k7.cell 1
      have u2 := k7.cell 2
      have u3 := k7.cell 3
      have u4 := k7.cell 4
      have u5 := k7.cell 5
      have hlw : wr.heap.size < w6.heap.size := HK6.out.lt
      have HK14 := hide k14
      have HK15 := hide k7
      have HG7 := hide kg7
      have HO7 := hide (own_keep HO6.out hb7)
      have HE7 := hide (own_keep HE6.out hb7)
      have HWW7 := hide (own_keep HWW6.out hb7)
      have HB7 := hide (HB6.out.trans (hb7.mono HB6.out.size))
      clear hb7 k7 k14 kg7 hW7 HE6 HWW6 HK6 HG6 HO6 HB6 HK5 HG5 HO5 HB5 c0 c1 c2 c3 c4 c5 g0 g1 g2 g3 g4 g5
      have hn1 : w2.heap.size ≠ wr.heap.size := by omega
      have hn2 : w2.heap.size ≠ w6.heap.size := by omega
      go_region_held3 (fun w' => w'.cell? ⟨wr.heap.size, 0, none⟩ = some (.int .u8 (sk.kind : Nat)) ∧ w'.cell? ⟨wr.heap.size, 1, none⟩ = some (.string sk.nm) ∧ w'.cell? ⟨wr.heap.size, 2, none⟩ = some (.string sk.to_) ∧ w'.cell? ⟨wr.heap.size, 3, none⟩ = some (.string sk.tx) ∧ w'.cell? ⟨wr.heap.size, 4, none⟩ = some (.int .i64 sk.n) ∧ w'.cell? ⟨wr.heap.size, 5, none⟩ = some (.slice K sk.keep.length ck) ∧ w'.cell? ⟨w6.heap.size, 0, none⟩ = some (.int .i64 (lvD (k + 1)).size) ∧ w'.cell? ⟨w6.heap.size, 1, none⟩ = some (.slice AE6 (lvD (k + 1)).exts.length cE6) ∧ w'.cell? ⟨w6.heap.size, 2, none⟩ = some (.slice AW6 (lvD (k + 1)).waits.length cW6) ∧ w'.cell? ⟨w6.heap.size, 3, none⟩ = some (.int .i64 (lvD (k + 1)).fuse) ∧ w'.cell? ⟨w6.heap.size, 4, none⟩ = some (.bool (lvD (k + 1)).down) ∧ w'.cell? ⟨w6.heap.size, 5, none⟩ = some (.int .i64 24)) (first | with_reducible exact ⟨s0, s1, s2, s3, s4, s5, u0, u1, u2, u3, u4, u5⟩ | with_reducible exact ⟨far6 hn1 s0, far6 hn1 s1, far6 hn1 s2, far6 hn1 s3, far6 hn1 s4, far6 hn1 s5, far6 hn2 u0, far6 hn2 u1, far6 hn2 u2, far6 hn2 u3, far6 hn2 u4, far6 hn2 u5⟩ | go_keep)
        (first
          | (go_at_call 51; refine Calls.mono (HTold.out _) ?_; rintro e w8 ⟨rfl, hb8⟩; have k14 := (show Bk W7.drew wr.heap.size _ _ from HK14.out).keep hb8; have k15 := (show Bk W7.drew w6.heap.size _ _ from HK15.out).keep hb8; have kg := (show Bk W7.drew w2.heap.size _ _ from HG7.out).keep hb8; have s0 := k14.cell 0; have s1 := k14.cell 1; have s2 := k14.cell 2; have s3 := k14.cell 3; have s4 := k14.cell 4; have s5 := k14.cell 5; have u0 := k15.cell 0; have u1 := k15.cell 1; have u2 := k15.cell 2; have u3 := k15.cell 3; have u4 := k15.cell 4; have u5 := k15.cell 5; have hz8 := kg.lt; have ho8 := own_keep (own_drew HO7.out) hb8; have he8 := own_keep (own_drew HE7.out) hb8; have hw8 := own_keep (own_drew HWW7.out) hb8; have hb9 := (show Below w2.heap.size w2 W7.drew from HB7.out.drew).trans (hb8.mono (show _ ≤ W7.drew.heap.size from HB7.out.size)); have HK14 := hide k14; have HK15 := hide k15; have HG7 := hide kg; have HO7 := hide ho8; have HE7 := hide he8; have HWW7 := hide hw8; have HB7 := hide hb9; clear hb8 k14 k15 kg ho8 he8 hw8 hb9)
          | (refine step_append_lies _ rfl (.tmp 53) (.tmp 58) 94 rfl w2.heap.size 9 i0 (.string ⟨#[]⟩) 1 16 Tryz.underlying94 hi hz0 hz1 hz2 rfl (by decide) (.slice AO k cO) k ((lvOut k).map .string) rfl (HO7.out.alloc _) ⟨_, 0, none⟩ 1 1 [.string o] rfl rfl (World.news_of_block (Bk.new _ _ _)) (by intro u hu; simp at hu; subst hu; rfl) (by decide) (by unfold maxLen; omega) (by omega) (by simp; omega) _ rfl ?_; intro g4 cap4 w4 hown4 hgr4 _ _; have k14 := (HK14.out.alloc (.cells #[.string o] 9)).grown hgr4 (own_ne HO7.out HK14.out (by decide)); have k15 := (HK15.out.alloc (.cells #[.string o] 9)).grown hgr4 (own_ne HO7.out HK15.out (by decide)); have kg := (HG7.out.alloc (.cells #[.string o] 9)).grown hgr4 (own_ne HO7.out HG7.out (by decide)); have he4 := (HE7.out.alloc (.cells #[.string o] 9)).kept hgr4 (own_apartX HE7.out HO7.out (by decide)); have hw4 := (HWW7.out.alloc (.cells #[.string o] 9)).kept hgr4 (own_apartX HWW7.out HO7.out (by decide)); have hb4 := (HB7.out.alloc HB7.out.size (.cells #[.string o] 9)).grown hgr4 (by have := HB7.out.size; simp; omega) (fun g hg => (HO7.out.lt g hg).1); have s0 := k14.cell 0; have s1 := k14.cell 1; have s2 := k14.cell 2; have s3 := k14.cell 3; have s4 := k14.cell 4; have s5 := k14.cell 5; have u0 := k15.cell 0; have u1 := k15.cell 1; have u2 := k15.cell 2; have u3 := k15.cell 3; have u4 := k15.cell 4; have u5 := k15.cell 5; have g0 := kg.cell 0; have fg0 := kg.free 0; have g1 := kg.cell 1; have fg1 := kg.free 1; have g2 := kg.cell 2; have fg2 := kg.free 2; have g3 := kg.cell 3; have fg3 := kg.free 3; have g4 := kg.cell 4; have fg4 := kg.free 4; have g5 := kg.cell 5; have fg5 := kg.free 5; have lg4 := kg.lt; have HK14 := hide k14; have HK15 := hide k15; have HG4 := hide kg; have HE4 := hide he4; have HWW4 := hide hw4; have HB4 := hide hb4; have HO4 := hide hown4; clear k14 k15 kg he4 hw4 hb4 hown4 hgr4))
      all_goals go_wp2_with fail
      all_goals refine ⟨⟨k + 1, by rw [Int.natCast_add]; rfl, by omega, hide ⟨AE6, cE6, AW6, cW6, put6_bk HG4.out _ _ _ _ _ _, own_put6 HE4.out (fun e => own_ne HE4.out HG4.out (by decide) e.symm) _ _ _ _ _ _, own_put6 HWW4.out (fun e => own_ne HWW4.out HG4.out (by decide) e.symm) _ _ _ _ _ _⟩, hide ?_, hide (put6_below HB4.out (Nat.le_refl _) _ _ _ _ _ _)⟩, by simp [intOf]; omega⟩
      all_goals (rw [HOut.out, List.map_append]; exact own_put6 HO4.out (fun e => own_ne HO4.out HG4.out (by decide) e.symm) _ _ _ _ _ _)
    · obtain rfl : k = 2 := by omega
      obtain ⟨AE, cE, AW, cW, hkW, hE, hW⟩ := hBlk.out
      have g0 := hkW.cell 0
      have g1 := hkW.cell 1
      have g2 := hkW.cell 2
      have g3 := hkW.cell 3
      have g4 := hkW.cell 4
      have g5 := hkW.cell 5
      have lg := hkW.lt
      have HG := hide hkW
      have HE := hide hE
      have HW := hide hW
      clear hkW hE hW hBlk
      have hv : WvR wr wr.heap.size (.agg #[.int .i64 (lvD 2).size, .slice AE (lvD 2).exts.length cE, .slice AW (lvD 2).waits.length cW, .int .i64 (lvD 2).fuse, .bool (lvD 2).down, .int .i64 24]) lvD1 24 := ⟨AE, cE, AW, cW, rfl, own_rdk HE.out, own_rdk HW.out⟩
      have hfi := files_any _ lvD1 24 wr hv lv_sz1
      rw [lv_files] at hfi
      have HFi := hide hfi
      clear hv hfi
      go_wp2_with (go_at_call 52; refine Calls.mono (show Calls _ _ _ wr _ from HFi.out) ?_; rintro e w6 ⟨⟨L, rfl, hL6⟩, hb6⟩; obtain ⟨AL, cL, rfl⟩ := own_formk hL6; have HL6 := hide hL6; have HO6 := hide (own_keep hO.out hb6); have HB6 := hide (hB.out.trans (hb6.mono hB.out.size)); have hz6 := hb6.size; clear hL6 hb6)
      obtain ⟨gN, rfl, hcL⟩ := own_some HL6.out (by decide)
      have hgN := HL6.out.lt gN rfl
      have hne : (Value.slice AO 2 cO).ownBlock ≠ some gN := fun e => by have := (hO.out.lt gN e).2; omega
      obtain ⟨zr, hzr⟩ : ∃ z, z = wr.heap.size := ⟨_, rfl⟩
      have hgz : w2.heap.size ≤ gN := by omega
      have hst : w6.ownsRow zr 9 1 (.slice (some ⟨gN, 0, none⟩) 1 cL) 1 [.string (if 0 = 0 then ⟨#[97]⟩ else blB (quoteB [97]))] := by rw [hzr]; exact HL6.out
      have HSt := hide hst
      clear hst g0 g1 g2 g3 g4 g5 HG HE HW HFi
      go_loopw [69] (fun iv wz => ∃ j : Nat, iv = .int .i64 j ∧ j ≤ 1 ∧ Hid (wz.ownsRow zr 9 1 (.slice (some ⟨gN, 0, none⟩) 1 cL) 1 [.string (if j = 0 then ⟨#[97]⟩ else blB (quoteB [97]))]) ∧ Hid (wz.ownsRow w2.heap.size 9 1 (.slice AO 2 cO) 2 ((lvOut 2).map .string)) ∧ Hid (Below w2.heap.size w2 wz)) (fun iv _ => 1 - (intOf iv).toNat)
      case atStart => exact ⟨0, rfl, by omega, HSt, HO6, HB6⟩
      case round =>
        clear HSt HO6 HB6 HL6
        obtain ⟨j, rfl, hj, hLz, hOz, hBz⟩ := hrel
        by_cases hlt : j < 1
        · obtain rfl : j = 0 := by omega
          have n0 := hLz.out.cells (g := gN) rfl 0 _ rfl
          rw [Addr.add_lit] at n0
          simp only [Nat.zero_add, if_pos] at n0
          have fn0 := hLz.out.frozenAt 0
          have hqt := fun W => fquote_any ⟨#[97]⟩ W (by decide)
          rw [show bl ⟨#[97]⟩ = [97] from rfl] at hqt
          have HQt := hide hqt
          clear hqt
          go_wp2_with (go_at_call 15; refine Calls.mono (HQt.out _) ?_; rintro e w8 ⟨rfl, hb8⟩; have hl8 := own_keep hLz.out hb8; have n0 := hl8.cells (g := gN) rfl 0 _ rfl; rw [Addr.add_lit] at n0; simp only [Nat.zero_add, if_pos] at n0; have fn0 := hl8.frozenAt 0; have HL8 := hide hl8; have HO8 := hide (own_keep hOz.out hb8); have HB8 := hide (hBz.out.trans (hb8.mono hBz.out.size)); have hz8 := hb8.size; clear hl8 hb8)
          all_goals exact ⟨⟨1, rfl, by omega, hide (HL8.out.stored 0 _).1, hide (own_set HO8.out hne _), hide (HB8.out.setCell (p := ⟨gN, 0, none⟩) hgz _)⟩, by decide⟩
        · obtain rfl : j = 1 := by omega
          have hjn := join_own (xs := [blB (quoteB [97])]) hLz.out rfl (by decide) (by decide) (by decide +kernel)
          rw [show blB (Lib.join (List.map bl [blB (quoteB [97])]) [32]) = lvX from rfl] at hjn
          obtain ⟨X, hX⟩ : ∃ X, X = lvX := ⟨_, rfl⟩
          rw [← hX] at hjn
          have hjN := fun (g c : Nat) (W : World) (h : W.ownsRow w2.heap.size 9 1 (.slice (some ⟨g, 0, none⟩) 3 c) 3 ((lvOut 2).map .string ++ [.string X])) => join_ownN (xs := [lvO1, lvO2, lvX]) (show W.ownsRow w2.heap.size 9 1 (.slice (some ⟨g, 0, none⟩) 3 c) 3 (List.map .string [lvO1, lvO2, lvX]) by rw [hX] at h; exact h) rfl (by decide) (by decide) (by decide +kernel)
          obtain ⟨Y, hY⟩ : ∃ Y, Y = blB (Lib.join (List.map bl [lvO1, lvO2, lvX]) [10]) := ⟨_, rfl⟩
          rw [← hY] at hjN
          rw [lv_join] at hY
          have HX := hide hX
          have hys : Y.size + 1 ≤ 9223372036854775807 := by rw [hY, blB_size]; decide
          have hyr : Y ++ ⟨#[10]⟩ = lvR := by rw [hY]; decide +kernel
          have HYr := hide hyr
          have HY := hide hY
          have HJN := hide hjN
          clear hX hY hjN hyr
          have HJn := hide hjn
          clear hjn hLz
          go_upto_region 20 with fail
          go_wp2_with
            (first
              | (go_at_call 48; refine Calls.mono HJ9.out ?_; rintro e w9 ⟨rfl, hb9⟩; have HB9 := hide (HB4.out.trans (hb9.mono HB4.out.size)); clear hb9)
              | (go_at_call 48; refine Calls.mono HJn.out ?_; rintro e w8 ⟨rfl, hb8⟩; have HO8 := hide (own_keep hOz.out hb8); have HB8 := hide (hBz.out.trans (hb8.mono hBz.out.size)); clear hb8)
              | (at_builtin; refine wpList_append_lies _ rfl (.tmp 80) (.tmp 83) 94 rfl w2.heap.size 9 i0 (.string ⟨#[]⟩) 1 16 Tryz.underlying94 hi hz0 hz1 hz2 rfl (by decide) (.slice AO 2 cO) 2 ((lvOut 2).map .string) rfl (HO8.out.alloc _) ⟨_, 0, none⟩ 1 1 [.string X] rfl rfl (World.news_of_block (Bk.new _ _ _)) (by intro u hu; simp at hu; subst hu; rfl) (by decide) (by unfold maxLen; omega) (by omega) (by have := HB8.out.size; simp; omega) _ rfl ?_; intro g4 cap4 w4 hown4 hgr4 _ _; have hb4 := (HB8.out.alloc HB8.out.size (.cells #[.string X] 9)).grown hgr4 (by have := HB8.out.size; simp; omega) (fun g hg => (HO8.out.lt g hg).1); have hj9 := HJN.out _ _ _ hown4; have HJ9 := hide hj9; have HB4 := hide hb4; have HO4 := hide hown4; clear hb4 hown4 hgr4 hj9))
          all_goals go_wp2_with fail
          all_goals refine bodyPost_ret (v := .tuple #[.string (Y ++ ⟨#[10]⟩), .int .i64 0]) (by simp [results, Tryz.results26, go_sem]) rfl ?_
          all_goals exact ⟨by rw [HYr.out], HB2.out.trans (HB9.out.mono HB2.out.size)⟩
end Go.Proofs.YtahnnebpadbopaaGreatDoor
/- Plain facts of lives32's other answers. -/
namespace Go.Proofs.YtahnnebpadbopaaGreatDoor
open Go.RowKit

def lwS1 : Stp := ⟨10, ⟨#[]⟩, ⟨#[]⟩, ⟨#[]⟩, 0, [true, false]⟩
def lwS2 : Stp := ⟨0, ⟨#[]⟩, ⟨#[]⟩, ⟨#[]⟩, 0, []⟩
def lwQ : List UInt8 := [34, 92, 120, 50, 50, 92, 120, 48, 97, 34]
def scM : List UInt8 := [114, 101, 115, 117, 109, 101, 10, 112, 117, 116, 10]
theorem lw_q : quoteB [34, 10] = lwQ := by decide +kernel
theorem lw_p2 : (parseB scM).2 = (1, 7) := by decide +kernel
theorem lw_w1 : writeV (writeB [lwS1]) = .tuple #[.string ⟨#[99, 114, 97, 115, 104, 32, 49, 48, 10]⟩, .int .i64 0] := by kernel_rfl
theorem lw_w2 : writeV (writeB [lwS2]) = .tuple #[.string ⟨#[]⟩, .int .i64 2] := by kernel_rfl
theorem lw_u : unqV (unquoteB (lwQ ++ [33])) = .tuple #[.string ⟨#[34, 10]⟩, .string ⟨#[33]⟩, .int .i64 0] := by kernel_rfl
theorem lw_sts1 {W : World} {g h : Nat} (hk : Bk W h 39 #[.int .u8 10, .string ⟨#[]⟩, .string ⟨#[]⟩, .string ⟨#[]⟩, .int .i64 0, .slice (some ⟨g, 0, none⟩) 2 2]) (hg : Bk W g 4 #[.bool true, .bool false]) : StsR W W.heap.size (some ⟨h, 0, none⟩) [lwS1] := by
  refine ⟨[.slice (some ⟨g, 0, none⟩) 2 2], rfl, fun i u hu => ⟨h, 0, rfl, hk.lt, ?_⟩, fun i s v hs hv => ?_⟩
  · rw [Nat.zero_add]
    exact (hk.cell i).trans (by rw [← Array.getElem?_toList]; exact hu)
  · match i, hs, hv with
    | 0, hs, hv =>
      obtain rfl : lwS1 = s := Option.some.inj hs
      obtain rfl := Option.some.inj hv
      refine ⟨some ⟨g, 0, none⟩, 2, rfl, fun j u hu => ⟨g, 0, rfl, hg.lt, ?_⟩⟩
      rw [Nat.zero_add]
      exact (hg.cell j).trans (by rw [← Array.getElem?_toList]; exact hu)
    | i + 1, hs, hv => simp at hs
theorem lw_sts2 {W : World} {h : Nat} (hk : Bk W h 39 #[.int .u8 0, .string ⟨#[]⟩, .string ⟨#[]⟩, .string ⟨#[]⟩, .int .i64 0, .slice none 0 0]) : StsR W W.heap.size (some ⟨h, 0, none⟩) [lwS2] := by
  refine ⟨[.slice none 0 0], rfl, fun i u hu => ⟨h, 0, rfl, hk.lt, ?_⟩, fun i s v hs hv => ?_⟩
  · rw [Nat.zero_add]
    exact (hk.cell i).trans (by rw [← Array.getElem?_toList]; exact hu)
  · match i, hs, hv with
    | 0, hs, hv =>
      obtain rfl : lwS2 = s := Option.some.inj hs
      obtain rfl := Option.some.inj hv
      exact ⟨none, 0, rfl, fun j u hu => by simp [lwS2] at hu⟩
    | i + 1, hs, hv => simp at hs
end Go.Proofs.YtahnnebpadbopaaGreatDoor
/- Plain facts of scripts and their sizes; a step of its own in memory, and a list's rest. -/
namespace Go.Proofs.YtahnnebpadbopaaGreatDoor
open Go.RowKit

/-- A list's weight. -/
def wtOne (s : Stp) : Nat := 7 + s.nm.size + s.to_.size + s.tx.size + s.keep.length
def wtS : List Stp → Nat
  | [] => 0
  | s :: l => wtOne s + wtS l
theorem wt_small : ∀ {l : List Stp} {n : Nat}, wtS l ≤ n → l.length ≤ n ∧ ∀ s ∈ l, SmB n s
  | [], n, _ => ⟨Nat.zero_le _, fun s hs => by cases hs⟩
  | s :: l, n, h => by
    have h0 : wtOne s + wtS l ≤ n := h
    have h1 : 7 + s.nm.size + s.to_.size + s.tx.size + s.keep.length + wtS l ≤ n := h0
    obtain ⟨a, b⟩ := wt_small (l := l) (n := n - 7) (by omega)
    refine ⟨by rw [List.length_cons]; omega, fun x hx => ?_⟩
    rcases List.mem_cons.1 hx with rfl | hx
    · exact ⟨by omega, by omega, by omega, by omega⟩
    · obtain ⟨c1, c2, c3, c4⟩ := b x hx
      exact ⟨by omega, by omega, by omega, by omega⟩
theorem line_wt {s : Stp} (hf : fitsN s.n = true) : (lineB s).length + 1 ≤ 5 * wtOne s := by
  have hv : (verbB s.kind).length ≤ 6 := by
    unfold verbB
    split <;> simp
  have q := fun (x : ByteArray) => show (quoteB (bl x)).length ≤ 4 * x.size + 2 from by
    have := quote_max (bl x)
    rw [bl_size] at this
    unfold quoteB
    rw [List.length_cons, List.length_append, List.length_singleton]
    omega
  have q1 := q s.nm
  have q2 := q s.to_
  have q3 := q s.tx
  have q4 : (Lib.itoa s.n).length ≤ 10 := by
    unfold fitsN at hf
    simp only [Bool.and_eq_true, decide_eq_true_eq] at hf
    exact itoa_length _ hf.1 hf.2
  have q5 : (keptB s.keep).length = s.keep.length := by unfold keptB; rw [List.length_map]
  show _ ≤ 5 * (7 + s.nm.size + s.to_.size + s.tx.size + s.keep.length)
  unfold lineB argsB
  rw [List.length_append]
  split
  · rw [List.length_cons, List.length_append, List.length_cons]; omega
  · split
    · rw [List.length_cons]; omega
    · split
      · rw [List.length_cons, List.length_append, List.length_cons]; omega
      · split
        · rw [List.length_cons]; omega
        · split
          · rw [List.length_cons]; omega
          · rw [List.length_nil]; omega
theorem write_wt : ∀ {l : List Stp} {t : List UInt8}, writeB l = some t → t.length ≤ 5 * wtS l
  | [], t, h => by
    obtain rfl : [] = t := Option.some.inj h
    exact Nat.zero_le _
  | s :: l, t, h => by
    rw [writeB] at h
    split at h
    · rename_i hc
      rw [Bool.and_eq_true] at hc
      obtain ⟨u, hu, rfl⟩ := Option.map_eq_some_iff.1 h
      have h1 := write_wt hu
      have h2 := line_wt hc.2
      show _ ≤ 5 * (wtOne s + wtS l)
      rw [List.length_append, List.length_cons]
      omega
    · cases h
theorem write_small : ∀ {l : List Stp} {t : List UInt8}, writeB l = some t → l.length ≤ t.length ∧ ∀ s ∈ l, SmB t.length s
  | [], t, _ => ⟨Nat.zero_le _, fun s hs => by cases hs⟩
  | s :: l, t, h => by
    rw [writeB] at h
    split at h
    · rename_i hc
      rw [Bool.and_eq_true] at hc
      obtain ⟨u, hu, rfl⟩ := Option.map_eq_some_iff.1 h
      obtain ⟨h1, h2⟩ := write_small hu
      have h3 := guess_len (lineB s)
      rw [guess_line hc.1 hc.2] at h3
      have hz : (lineB s ++ 10 :: u).length = (lineB s).length + u.length + 1 := by rw [List.length_append, List.length_cons]; omega
      rw [hz]
      refine ⟨by rw [List.length_cons]; omega, fun x hx => ?_⟩
      rcases List.mem_cons.1 hx with rfl | hx
      · obtain ⟨c1, c2, c3, c4⟩ := h3
        exact ⟨by omega, by omega, by omega, by omega⟩
      · obtain ⟨c1, c2, c3, c4⟩ := h2 x hx
        exact ⟨by omega, by omega, by omega, by omega⟩
    · cases h
theorem parse_small (s : List UInt8) : (parseB s).1.length ≤ s.length ∧ ∀ x ∈ (parseB s).1, SmB s.length x := by
  rcases parse_cases s with ⟨l, h1, h2⟩ | ⟨n, h2⟩
  · rw [h2]
    exact write_small h1
  · rw [h2]
    exact ⟨Nat.zero_le _, fun x hx => by cases hx⟩
/-- What the number of lines is at most: a fault's is one of the text's lines. -/
theorem parseF_lines : ∀ (f : Nat) (s : List UInt8) (out : List Stp), (parseF f s out).2.1 ≤ out.length + s.length
  | 0, s, out => Nat.le_add_right _ _
  | f + 1, s, out => by
    by_cases h0 : s = []
    · subst h0
      rw [parse_nil]
      exact Nat.le_add_right _ _
    · rcases nl_split s with h | ⟨l, r, rfl, h⟩
      · rw [parse_end f s out h0 h]
        exact Nat.le_add_right _ _
      · rw [parse_line f l r out h]
        split
        · have := parseF_lines f r (out ++ [‹Stp›])
          rw [List.length_append, List.length_singleton] at this
          rw [List.length_append, List.length_cons]
          omega
        · exact Nat.le_add_right _ _
theorem parse_lines (s : List UInt8) : (parseB s).2.1 ≤ s.length := by
  have := parseF_lines (s.length + 1) s []
  rwa [List.length_nil, Nat.zero_add] at this
theorem sm_of {l : List Stp} {n : Nat} (h : ∀ s ∈ l, SmB n s) (hn : n ≤ 2000000) : SmS l := fun s hs => by
  obtain ⟨a, b, c, d⟩ := h s hs
  exact ⟨Nat.le_trans a hn, Nat.le_trans b hn, Nat.le_trans c hn, Nat.le_trans d hn⟩
/-- What a writing hands back, its two parts. -/
theorem write_form (o : Option (List UInt8)) : ∃ a b, writeV o = .tuple #[.string a, .int .i64 b] := by
  cases o with
  | none => exact ⟨_, _, rfl⟩
  | some t => exact ⟨_, _, rfl⟩
/-- One step in a block of its own. -/
theorem one_sts {W : World} {h : Nat} {s : Stp} {kv : Value} (hk : Bk W h 39 #[.int .u8 (s.kind : Nat), .string s.nm, .string s.to_, .string s.tx, .int .i64 s.n, kv]) (hv : KpR W W.heap.size kv s.keep) : StsR W W.heap.size (some ⟨h, 0, none⟩) [s] := by
  refine ⟨[kv], rfl, fun i u hu => ⟨h, 0, rfl, hk.lt, ?_⟩, fun i x v hs hv' => ?_⟩
  · rw [Nat.zero_add]
    exact (hk.cell i).trans (by rw [← Array.getElem?_toList]; exact hu)
  · match i, hs, hv' with
    | 0, hs, hv' =>
      obtain rfl : s = x := Option.some.inj hs
      obtain rfl := Option.some.inj hv'
      exact hv
    | i + 1, hs, hv' => simp at hs
/-- A list's rest. -/
theorem StsR.tail {w : World} {B b o : Nat} {s : Stp} {l : List Stp} (h : StsR w B (some ⟨b, o, none⟩) (s :: l)) : StsR w B (some ⟨b, o + 6, none⟩) l := by
  obtain ⟨kv, hl, hr, hk⟩ := h
  match kv, hl with
  | v :: kv, hl =>
    refine ⟨kv, by simpa using hl, fun i u hu => ?_, fun i x y hx hy => hk (i + 1) x y hx hy⟩
    obtain ⟨b', o', he, hb, hc⟩ := hr (i + 6) u (by
      show (stpC s v ++ flatS (l.zip kv))[i + 6]? = _
      rw [List.getElem?_append_right (by show 6 ≤ i + 6; omega)]
      simpa [stpC] using hu)
    cases he
    exact ⟨b, o + 6, rfl, hb, by rw [show o + 6 + i = o + (i + 6) from by omega]; exact hc⟩
end Go.Proofs.YtahnnebpadbopaaGreatDoor
/- Walk: wringerlaw32.lives. -/
namespace Go.Proofs.YtahnnebpadbopaaGreatDoor
open Go.RowKit

set_option maxRecDepth 100000 in
set_option maxHeartbeats 16000000 in
theorem lives_any (w : World) (hL : Lay w) :
    Calls Tryz.prog 11 #[] w fun e w' => e = .returned (.bool true) ∧ Below w.heap.size w w' := by
  have hp := fun W (h : Lay W) => fparse_any (blB scL) W (by rw [blB_size]; decide) h
  simp only [bl_blB, lv_parse] at hp
  have hp2 := fun W (h : Lay W) => fparse_any (blB scM) W (by rw [blB_size]; decide) h
  simp only [bl_blB] at hp2
  have HP := hide hp
  have HP2 := hide hp2
  have HL := hide hL
  clear hp hp2 hL
  go_enter Tryz.func11, Tryz.ntmps11
  go_upto_region 2 with (first
    | (go_at_call 7; refine Calls.mono (HP.out _ HL.out) ?_; rintro e w1 ⟨⟨V1, rfl, hst⟩, hb1⟩; have HS := hide hst; have HL1 := hide (HL.out.all hb1); have HB1 := hide hb1; clear hst hb1))
  obtain ⟨W2, hW2⟩ : ∃ W2, W2 = (w1.alloc (.cells #[.bool true, .bool false] 4)).alloc (.cells #[.int .u8 10, .string ⟨#[]⟩, .string ⟨#[]⟩, .string ⟨#[]⟩, .int .i64 0, .slice (some ⟨w1.heap.size, 0, none⟩) 2 2] 39) := ⟨_, rfl⟩
  have hb2 : Below w1.heap.size w1 W2 := by rw [hW2]; exact (ba1 w1 _).trans ((ba1 _ _).mono (by simp))
  have hs2 : StsR W2 W2.heap.size (some ⟨w1.heap.size + 1, 0, none⟩) [lwS1] := by
    rw [hW2]
    refine lw_sts1 (g := w1.heap.size) (h := w1.heap.size + 1) ?_ ((Bk.new _ _ _).alloc _)
    have hsz : (w1.alloc (.cells #[.bool true, .bool false] 4)).heap.size = w1.heap.size + 1 := by simp
    rw [← hsz]
    exact Bk.new _ _ _
  have hl2 := HL1.out.all hb2
  have hw2 := fwrite_any [lwS1] _ 1 W2 hs2 (by intro s hs; simp at hs; subst hs; decide) (by decide) hl2.verb (by have := hl2.size; omega) hl2.pow
  rw [lw_w1] at hw2
  have HW2 := hide hw2
  have HL2 := hide hl2
  have HB2 := hide hb2
  have HE2 := hide hW2
  clear hw2 hl2 hb2 hs2 hW2
  go_upto_region 3 with (first
    | (go_at_call 9; rw [← HE2.out]; refine Calls.mono HW2.out ?_; rintro e w3 ⟨rfl, hb3⟩; have HL3 := hide (HL2.out.all hb3); have HB3 := hide (HB2.out.trans (hb3.mono HB2.out.size)); clear hb3))
  have hq := fun W => fquote_any ⟨#[34, 10]⟩ W (by decide)
  rw [show bl ⟨#[34, 10]⟩ = [34, 10] from rfl, lw_q] at hq
  have hu := fun W => funquote_any (blB lwQ ++ ⟨#[33]⟩) W (by decide)
  rw [show bl (blB lwQ ++ ⟨#[33]⟩) = lwQ ++ [33] from by decide +kernel, lw_u] at hu
  obtain ⟨Q, hQ⟩ : ∃ Q, Q = blB lwQ := ⟨_, rfl⟩
  rw [← hQ] at hq hu
  have hqz : Q.size + 1 ≤ 9223372036854775807 := by rw [hQ, blB_size]; decide
  have HQ := hide hq
  have HU := hide hu
  have HQe := hide hQ
  clear hq hu hQ
  go_upto_region 5 with (first
    | (go_at_call 15; refine Calls.mono (HQ.out _) ?_; rintro e w4 ⟨rfl, hb4⟩; have HL4 := hide (HL3.out.all hb4); have HB4 := hide (HB3.out.trans (hb4.mono HB3.out.size)); clear hb4)
    | (go_at_call 13; refine Calls.mono (HU.out _) ?_; rintro e w5 ⟨rfl, hb5⟩; have HL5 := hide (HL4.out.all hb5); have HB5 := hide (HB4.out.trans (hb5.mono HB4.out.size)); clear hb5))
  have HRun := hide (fun W (h : Lay W) => run_lives W h)
  go_upto_region 7 with (first
    | (go_at_call 26; refine Calls.mono (HRun.out _ HL5.out) ?_; rintro e w6 ⟨rfl, hb6⟩; have HL6 := hide (HL5.out.all hb6); have HB6 := hide (HB5.out.trans (hb6.mono HB5.out.size)); clear hb6)
    | (go_at_call 7; refine Calls.mono (HP2.out _ HL6.out) ?_; rintro e w7 ⟨⟨V7, rfl, hst7⟩, hb7⟩; have HL7 := hide (HL6.out.all hb7); have HB7 := hide (HB6.out.trans (hb7.mono HB6.out.size)); clear hb7 hst7))
  obtain ⟨W8, hW8⟩ : ∃ W8, W8 = w7.alloc (.cells #[.int .u8 0, .string ⟨#[]⟩, .string ⟨#[]⟩, .string ⟨#[]⟩, .int .i64 0, .slice none 0 0] 39) := ⟨_, rfl⟩
  have hb8 : Below w7.heap.size w7 W8 := by rw [hW8]; exact ba1 w7 _
  have hs8 : StsR W8 W8.heap.size (some ⟨w7.heap.size, 0, none⟩) [lwS2] := by rw [hW8]; exact lw_sts2 (Bk.new _ _ _)
  have hl8 := HL7.out.all hb8
  have hw8 := fwrite_any [lwS2] _ 1 W8 hs8 (by intro s hs; simp at hs; subst hs; decide) (by decide) hl8.verb (by have := hl8.size; omega) hl8.pow
  rw [lw_w2] at hw8
  have HW8 := hide hw8
  have HL8 := hide hl8
  have HB8 := hide (HB7.out.trans (hb8.mono HB7.out.size))
  have HE8 := hide hW8
  clear hw8 hl8 hb8 hs8 hW8
  go_upto_region 8 with (first
    | (go_at_call 9; rw [← HE8.out]; refine Calls.mono HW8.out ?_; rintro e w9 ⟨rfl, hb9⟩; have HB9 := hide (HB8.out.trans (hb9.mono HB8.out.size)); clear hb9))
  obtain ⟨A1, c1, rfl, hsr⟩ := (HS.out.keep HB9.out).rd
  obtain ⟨bb, oo, kv, rfl, hbb, hkv, c0, c1, c2, c3, c4, c5⟩ := stp_cells hsr (show [lvS1, lvS2][0]? = some lvS1 from rfl)
  have hp21 : (parseB scM).2.1 = 1 := by rw [lw_p2]
  have hp22 : (parseB scM).2.2 = 7 := by rw [lw_p2]
  simp only [Nat.zero_mul, Nat.add_zero] at c0 c1 c2 c3 c4 c5
  have hk1 : ((lvS1.kind : Nat) : Int) = 1 := rfl
  have ht1 : lvS1.tx.toList = [120, 121] := by decide +kernel
  have hQl : Q.toList = [34, 92, 120, 50, 50, 92, 120, 48, 97, 34] := by rw [HQe.out]; decide +kernel
  have hRl : lvR.toList = [111, 107, 10, 111, 107, 32, 34, 120, 121, 34, 10, 34, 97, 34, 10] := by decide +kernel
  go_wp2_with fail
  all_goals first | contradiction | skip
  all_goals refine bodyPost_ret (v := .bool true) (by simp [results, Tryz.results11, go_sem, hp21, hp22, hRl]) rfl ?_
  all_goals exact ⟨rfl, HB1.out.trans (HB9.out.mono HB1.out.size)⟩
end Go.Proofs.YtahnnebpadbopaaGreatDoor
/- Walk: wringerlaw32.FrontQuotes. -/
namespace Go.Proofs.YtahnnebpadbopaaGreatDoor
open Go.RowKit

set_option maxRecDepth 100000 in
set_option maxHeartbeats 16000000 in
theorem frontQuotes_any (s : ByteArray) (w : World) (hs : s.size ≤ 100000000) (hL : Lay w) :
    Calls Tryz.prog 4 #[.string s] w fun e w' => e = .returned (.bool true) ∧ Below w.heap.size w w' := by
  have hu := fun W => funquote_any s W hs
  have hr := fun W => runquote_any s W hs
  simp only [runquote_eq] at hr
  have hq := fun W => fquote_any s W hs
  have hp := fun W => rquote_any s W hs
  obtain ⟨U, hU⟩ : ∃ U, U = unqV (unquoteB (bl s)) := ⟨_, rfl⟩
  have hUf : ∃ a b c, U = .tuple #[.string a, .string b, .int .i64 c] := by
    rw [hU]
    cases unquoteB (bl s) with
    | none => exact ⟨_, _, _, rfl⟩
    | some u => exact ⟨_, _, _, rfl⟩
  rw [← hU] at hu hr
  obtain ⟨ua, ub, uc, rfl⟩ := hUf
  obtain ⟨Q, hQ⟩ : ∃ Q, Q = blB (quoteB (bl s)) := ⟨_, rfl⟩
  rw [← hQ] at hq hp
  have HU := hide hu
  have HR := hide hr
  have HQ := hide hq
  have HP := hide hp
  have HL := hide hL
  have HLv := hide (fun W (h : Lay W) => lives_any W h)
  clear hu hr hq hp hL hU hQ
  go_enter Tryz.func4, Tryz.ntmps4
  go_wp2_with (first
    | (go_at_call 13; refine Calls.mono (HU.out _) ?_; rintro e w1 ⟨rfl, hb1⟩; have HL1 := hide (HL.out.all hb1); have HB1 := hide hb1; clear hb1)
    | (go_at_call 14; refine Calls.mono (HR.out _) ?_; rintro e w2 ⟨rfl, hb2⟩; have HL2 := hide (HL1.out.all hb2); have HB2 := hide (HB1.out.trans (hb2.mono HB1.out.size)); clear hb2)
    | (go_at_call 11; refine Calls.mono (HLv.out _ HL2.out) ?_; rintro e w3 ⟨rfl, hb3⟩; have HB3 := hide (HB2.out.trans (hb3.mono HB2.out.size)); clear hb3)
    | (go_at_call 15; refine Calls.mono (HQ.out _) ?_; rintro e w4 ⟨rfl, hb4⟩; have HB4 := hide (HB3.out.trans (hb4.mono HB3.out.size)); clear hb4)
    | (go_at_call 16; refine Calls.mono (HP.out _) ?_; rintro e w5 ⟨rfl, n5, rfl⟩))
  all_goals refine bodyPost_ret (v := .bool true) (by simp [results, Tryz.results4, go_sem]) rfl ?_
  all_goals exact ⟨rfl, below_drewN HB4.out n5⟩
end Go.Proofs.YtahnnebpadbopaaGreatDoor
/- Walk: wringerlaw32.FrontScripts. -/
namespace Go.Proofs.YtahnnebpadbopaaGreatDoor
open Go.RowKit

set_option maxRecDepth 100000 in
set_option maxHeartbeats 16000000 in
theorem frontScripts_any (s : ByteArray) (l : List Stp) (A : Option Addr) (c : Nat) (w : World) (hs : s.size ≤ 1048576) (hA : StsR w w.heap.size A l) (hl : wtS l ≤ 1048576) (hL : Lay w) :
    Calls Tryz.prog 3 #[.string s, .slice A l.length c] w fun e w' => e = .returned (.bool true) ∧ Below w.heap.size w w' := by
  obtain ⟨hl1, hl2⟩ := wt_small hl
  have hsm : SmS l := sm_of hl2 (by decide)
  have hfp := fun W (h : Lay W) => fparse_any s W (by omega) h
  have hrp := fun W => rparse_any s W (by omega)
  simp only [rparse_eq] at hrp
  obtain ⟨hp1, hp2⟩ := parse_small (bl s)
  rw [bl_size] at hp1 hp2
  have hn := parse_lines (bl s)
  rw [bl_size] at hn
  obtain ⟨P, hP⟩ : ∃ P, P = parseB (bl s) := ⟨_, rfl⟩
  rw [← hP] at hp1 hp2 hn
  simp only [← hP] at hfp hrp
  obtain ⟨pl, pn, pe⟩ := P
  have hp3 : pl.length ≤ s.size := hp1
  have hp4 : ∀ x ∈ pl, SmB s.size x := hp2
  have hsame := fun W (A1 A2 : Option Addr) c1 c2 h1 h2 => same_any pl pl A1 A2 c1 c2 W (by omega) (fun x hx => by have := (hp4 x hx).2.2.2; omega) h1 h2
  simp only [decide_true] at hsame
  have hw := fun W (h : Lay W) (hA : StsR W W.heap.size A l) => fwrite_any l A c W hA hsm (by omega) h.verb (by have := h.size; omega) h.pow
  have hr := fun W (hA : StsR W W.heap.size A l) => rwrite_any l A c W hA hsm (by omega)
  obtain ⟨ws, wn, hwv⟩ := write_form (writeB l)
  rw [hwv] at hw hr
  have HFP := hide hfp
  have HRP := hide hrp
  have HSM := hide hsame
  have HW := hide hw
  have HR := hide hr
  have HL := hide hL
  have HA := hide hA
  have HLv := hide (fun W (h : Lay W) => lives_any W h)
  clear hfp hrp hsame hw hr hL hA hP hp1 hp2 hp3 hp4 hl hl1 hl2 hsm hwv
  go_enter Tryz.func3, Tryz.ntmps3
  go_wp2_with (first
    | (go_at_call 7; refine Calls.mono (HFP.out _ HL.out) ?_; rintro e w1 ⟨⟨V1, rfl, hst1⟩, hb1⟩; obtain ⟨A1, c1, rfl, hr1⟩ := hst1.rd; have HS1 := hide hr1; have HA1 := hide ((HA.out.below hb1).more hb1.size); have HL1 := hide (HL.out.all hb1); have HB1 := hide hb1; clear hst1 hr1 hb1)
    | (go_at_call 8; refine Calls.mono (HRP.out _) ?_; rintro e w2 ⟨⟨V2, rfl, hst2⟩, hb2⟩; obtain ⟨A2, c2, rfl, hr2⟩ := hst2.rd; have HT2 := hide hr2; have HS2 := hide ((HS1.out.below hb2).more hb2.size); have HA2 := hide ((HA1.out.below hb2).more hb2.size); have HL2 := hide (HL1.out.all hb2); have HB2 := hide (HB1.out.trans (hb2.mono HB1.out.size)); clear hst2 hr2 hb2)
    | (go_at_call 9; refine Calls.mono (HW.out _ HL2.out HA2.out) ?_; rintro e w3 ⟨rfl, hb3⟩; have HT3 := hide ((HT2.out.below hb3).more hb3.size); have HS3 := hide ((HS2.out.below hb3).more hb3.size); have HA3 := hide ((HA2.out.below hb3).more hb3.size); have HL3 := hide (HL2.out.all hb3); have HB3 := hide (HB2.out.trans (hb3.mono HB2.out.size)); clear hb3)
    | (go_at_call 10; refine Calls.mono (HR.out _ HA3.out) ?_; rintro e w4 ⟨rfl, hb4⟩; have HT4 := hide ((HT3.out.below hb4).more hb4.size); have HS4 := hide ((HS3.out.below hb4).more hb4.size); have HL4 := hide (HL3.out.all hb4); have HB4 := hide (HB3.out.trans (hb4.mono HB3.out.size)); clear hb4)
    | (go_at_call 11; refine Calls.mono (HLv.out _ HL4.out) ?_; rintro e w5 ⟨rfl, hb5⟩; have HT5 := hide ((HT4.out.below hb5).more hb5.size); have HS5 := hide ((HS4.out.below hb5).more hb5.size); have HB5 := hide (HB4.out.trans (hb5.mono HB4.out.size)); clear hb5)
    | (go_at_call 12; refine Calls.mono (HSM.out _ _ _ _ _ HS5.out HT5.out) ?_; rintro e w6 ⟨rfl, hb6⟩; have HB6 := hide (HB5.out.trans (hb6.mono HB5.out.size)); clear hb6))
  all_goals refine bodyPost_ret (v := .bool true) (by simp [results, Tryz.results3, go_sem]) rfl ?_
  all_goals exact ⟨rfl, HB6.out⟩
end Go.Proofs.YtahnnebpadbopaaGreatDoor
/- Walk: wringerlaw32.FrontLine: a step that is refused. -/
namespace Go.Proofs.YtahnnebpadbopaaGreatDoor
open Go.RowKit

theorem below_al {w2 w3 : World} {o : Obj} (h3 : Below (w2.alloc o).heap.size (w2.alloc o) w3) : Below w2.heap.size w2 w3 := (ba1 w2 o).trans (h3.mono (ba1 w2 o).size)
theorem StsO.form {w : World} {base : Nat} {v : Value} {l : List Stp} (h : StsO w base v l) : ∃ A c, v = .slice A l.length c ∧ l.length ≤ c ∧ StsR w w.heap.size A l := by
  obtain ⟨A, c, rfl, hr⟩ := h.rd
  refine ⟨A, c, rfl, ?_, hr⟩
  obtain ⟨kv, _, ho, _⟩ := h
  rcases ho.2 with ⟨e, hn⟩ | ⟨g, cap, cur, e, _, _, hle, _⟩
  · rw [hn]; exact Nat.zero_le _
  · cases e; exact hle
theorem six_cells {w : World} {g : Nat} {t : TypeId} {a b c d e f : Value} (h : Bk w g t #[a, b, c, d, e, f]) : w.cell? ⟨g, 0, none⟩ = some a ∧ w.cell? ⟨g, 1, none⟩ = some b ∧ w.cell? ⟨g, 2, none⟩ = some c ∧ w.cell? ⟨g, 3, none⟩ = some d ∧ w.cell? ⟨g, 4, none⟩ = some e ∧ w.cell? ⟨g, 5, none⟩ = some f := ⟨h.cell 0, h.cell 1, h.cell 2, h.cell 3, h.cell 4, h.cell 5⟩
theorem bl_app (a b : ByteArray) : bl (a ++ b) = bl a ++ bl b := congrArg bl (blB_app (bl a) (bl b))

set_option maxRecDepth 100000 in
set_option maxHeartbeats 16000000 in
/-- A step that is refused. -/
theorem frontLine_no (s : ByteArray) (x : Stp) (kv : Value) (w : World) (hs : s.size ≤ 1048576) (hkv : KpR w w.heap.size kv x.keep) (hsm : SmS [x]) (hwr : writeB [x] = none) (hL : Lay w) :
    Calls Tryz.prog 6 #[.string s, .agg #[.int .u8 (x.kind : Nat), .string x.nm, .string x.to_, .string x.tx, .int .i64 x.n, kv]] w fun e w' => e = .returned (.bool true) ∧ Below w.heap.size w w' := by
  have hfp := fun W (h : Lay W) => fparse_any s W (by omega) h
  obtain ⟨P, hP⟩ : ∃ P, P = parseB (bl s) := ⟨_, rfl⟩
  simp only [← hP] at hfp
  obtain ⟨pl, pn, pe⟩ := P
  have hw := fun W h (hl : Lay W) (hb : Bk W h 39 #[.int .u8 (x.kind : Nat), .string x.nm, .string x.to_, .string x.tx, .int .i64 x.n, kv]) (hk : KpR W W.heap.size kv x.keep) => fwrite_any [x] (some ⟨h, 0, none⟩) 1 W (one_sts hb hk) hsm (by show 1 ≤ 2000000; decide) hl.verb (by have := hl.size; omega) hl.pow
  have hwv : writeV (writeB [x]) = .tuple #[.string ⟨#[]⟩, .int .i64 2] := by rw [hwr]; rfl
  simp only [hwv] at hw
  obtain ⟨W0, hW0⟩ : ∃ W0, W0 = w.alloc (.cells #[.int .u8 (x.kind : Nat), .string x.nm, .string x.to_, .string x.tx, .int .i64 x.n, kv] 39) := ⟨_, rfl⟩
  have hb0 : Below w.heap.size w W0 := by rw [hW0]; exact ba1 _ _
  have k0 : Bk W0 w.heap.size 39 #[.int .u8 (x.kind : Nat), .string x.nm, .string x.to_, .string x.tx, .int .i64 x.n, kv] := by rw [hW0]; exact Bk.new _ _ _
  obtain ⟨p0, p1, p2, p3, p4, p5⟩ := six_cells k0
  have lp := k0.lt
  have HW0 := hide hW0
  have HB0 := hide hb0
  have HK0 := hide k0
  have HFP := hide hfp
  have HW := hide hw
  have HL := hide (hL.all hb0)
  have HK := hide ((hkv.below hb0).more hb0.size)
  have HLv := hide (fun W (h : Lay W) => lives_any W h)
  obtain ⟨xk, xa, xb, xc, xn, xl⟩ := x
  clear hW0 hb0 k0
  clear hfp hw hL hkv hP hwv hwr hsm
  go_enter Tryz.func6, Tryz.ntmps6
  go_wp2_with (first
    | (go_at_call 11; rw [← HW0.out]; refine Calls.mono (HLv.out _ HL.out) ?_; rintro e w1 ⟨rfl, hb1⟩; have m1 := HK0.out.keep hb1; have M1 := hide m1; have HK1 := hide ((HK.out.below hb1).more hb1.size); have HL1 := hide (HL.out.all hb1); have HB1 := hide (HB0.out.trans (hb1.mono HB0.out.size)); clear hb1 m1)
    | (go_at_call 7; refine Calls.mono (HFP.out _ HL1.out) ?_; rintro e w2 ⟨⟨V2, rfl, hst2⟩, hb2⟩; obtain ⟨A2, c2, rfl, hr2⟩ := hst2.rd; have HK2 := hide ((HK1.out.below hb2).more hb2.size); have HL2 := hide (HL1.out.all hb2); have HB2 := hide (HB1.out.trans (hb2.mono HB1.out.size)); have m2 := M1.out.keep hb2; have M2 := hide m2; obtain ⟨r0, r1, r2, r3, r4, r5⟩ := six_cells m2; have lr := m2.lt; clear hst2 hr2 hb2 m2)
    | (go_at_call 9; refine Calls.mono (HW.out _ _ (HL2.out.all (ba1 _ _)) (Bk.new _ _ _) ((HK2.out.below (ba1 _ _)).more (ba1 _ _).size)) ?_; rintro e w3 ⟨rfl, hb3⟩; have hb3' := below_al hb3; have HB3 := hide (HB2.out.trans (hb3'.mono HB2.out.size)); clear hb3 hb3'))
  all_goals refine bodyPost_ret (v := .bool true) (by simp [results, Tryz.results6, go_sem]) rfl ?_
  all_goals exact ⟨rfl, HB3.out⟩

end Go.Proofs.YtahnnebpadbopaaGreatDoor
/- Walk: wringerlaw32.FrontBack. -/
namespace Go.Proofs.YtahnnebpadbopaaGreatDoor
open Go.RowKit

set_option maxRecDepth 100000 in
set_option maxHeartbeats 16000000 in
theorem frontBack_00 (s : ByteArray) (l : List Stp) (A : Option Addr) (c : Nat) (t m : ByteArray) (w : World) (hs : s.size ≤ 1048576) (ht : t.size ≤ 1048576) (hm : m.size ≤ 1048576) (hA : StsR w w.heap.size A l) (hl : wtS l ≤ 1048576) (hwr : writeB l = none) (n : Nat) (hp : parseB (bl s) = ([], n, 7)) (hL : Lay w) :
    Calls Tryz.prog 5 #[.string s, .slice A l.length c, .string t, .string m] w fun e w' => e = .returned (.bool true) ∧ Below w.heap.size w w' := by
  obtain ⟨hl1, hl2⟩ := wt_small hl
  have hsm : SmS l := sm_of hl2 (by decide)
  have hw := fun W (h : Lay W) (hA : StsR W W.heap.size A l) => fwrite_any l A c W hA hsm (by omega) h.verb (by have := h.size; omega) h.pow
  have hwv : writeV (writeB l) = .tuple #[.string ⟨#[]⟩, .int .i64 2] := by rw [hwr]; rfl
  simp only [hwv] at hw
  have hfp := fun W (h : Lay W) => fparse_any s W (by omega) h
  simp only [hp] at hfp
  obtain ⟨Q, hQ⟩ : ∃ Q, Q = blB (quoteB (bl t)) := ⟨_, rfl⟩
  have hqm := quote_max (bl t)
  rw [bl_size] at hqm
  have hQz : Q.size ≤ 4194306 := by
    rw [hQ, blB_size]
    unfold quoteB
    rw [List.length_cons, List.length_append, List.length_singleton]
    omega
  have hq := fun W => fquote_any t W (by omega)
  simp only [← hQ] at hq
  have hz : (Q ++ m).size = Q.size + m.size := ByteArray.size_append
  have hu := fun W => funquote_any (Q ++ m) W (by omega)
  have huv : unqV (unquoteB (bl (Q ++ m))) = .tuple #[.string t, .string m, .int .i64 0] := by
    rw [bl_app, hQ, bl_blB, unquote_quote]
    rfl
  simp only [huv] at hu
  have hcat : Q.size + m.size ≤ 9223372036854775807 := by omega
  have HQ := hide hq
  have HU := hide hu
  have HFP := hide hfp
  have HW := hide hw
  have HL := hide hL
  have HA := hide hA
  have HB := hide (show Below w.heap.size w w from Below.refl _ _)
  have HLv := hide (fun W (h : Lay W) => lives_any W h)
  clear hq hu hfp hw hL hA hz huv hQ hqm hwv hwr hsm hl hl1 hl2 hp
  go_enter Tryz.func5, Tryz.ntmps5
  go_wp2_with (first
    | (go_at_call 11; refine Calls.mono (HLv.out _ HL.out) ?_; rintro e w1 ⟨rfl, hb1⟩; have HA := hide ((HA.out.below hb1).more hb1.size); have HL := hide (HL.out.all hb1); have HB := hide (HB.out.trans (hb1.mono HB.out.size)); clear hb1)
    | (go_at_call 9; refine Calls.mono (HW.out _ HL.out HA.out) ?_; rintro e w2 ⟨rfl, hb2⟩; have HA := hide ((HA.out.below hb2).more hb2.size); have HL := hide (HL.out.all hb2); have HB := hide (HB.out.trans (hb2.mono HB.out.size)); clear hb2)
    | (have hg := HUq; clear hg; go_at_call 7; refine Calls.mono (HFP.out _ HL.out) ?_; rintro e w6 ⟨⟨V6, rfl, hst6⟩, hb6⟩; obtain ⟨A6, c6, rfl, hr6⟩ := hst6.rd; have HPs := hide hr6; clear hst6 hr6; have HA := hide ((HA.out.below hb6).more hb6.size); have HL := hide (HL.out.all hb6); have HB := hide (HB.out.trans (hb6.mono HB.out.size)); clear hb6)
    | (go_at_call 15; refine Calls.mono (HQ.out _) ?_; rintro e w5 ⟨rfl, hb5⟩; have HA := hide ((HA.out.below hb5).more hb5.size); have HL := hide (HL.out.all hb5); have HB := hide (HB.out.trans (hb5.mono HB.out.size)); clear hb5)
    | (go_at_call 13; refine Calls.mono (HU.out _) ?_; rintro e w8 ⟨rfl, hb8⟩; have HUq := hide hb8; have HA := hide ((HA.out.below hb8).more hb8.size); have HL := hide (HL.out.all hb8); have HB := hide (HB.out.trans (hb8.mono HB.out.size)); clear hb8))
  all_goals refine bodyPost_ret (v := .bool true) (by simp [results, Tryz.results5, go_sem]) rfl ?_
  all_goals exact ⟨rfl, HB.out⟩

set_option maxRecDepth 100000 in
set_option maxHeartbeats 16000000 in
theorem frontBack_01 (s : ByteArray) (l : List Stp) (A : Option Addr) (c : Nat) (t m : ByteArray) (w : World) (hs : s.size ≤ 1048576) (ht : t.size ≤ 1048576) (hm : m.size ≤ 1048576) (hA : StsR w w.heap.size A l) (hl : wtS l ≤ 1048576) (hwr : writeB l = none) (pm : List Stp) (hpw : writeB pm = some (bl s)) (hp : parseB (bl s) = (pm, pm.length, 0)) (hL : Lay w) :
    Calls Tryz.prog 5 #[.string s, .slice A l.length c, .string t, .string m] w fun e w' => e = .returned (.bool true) ∧ Below w.heap.size w w' := by
  obtain ⟨hl1, hl2⟩ := wt_small hl
  have hsm : SmS l := sm_of hl2 (by decide)
  have hw := fun W (h : Lay W) (hA : StsR W W.heap.size A l) => fwrite_any l A c W hA hsm (by omega) h.verb (by have := h.size; omega) h.pow
  have hwv : writeV (writeB l) = .tuple #[.string ⟨#[]⟩, .int .i64 2] := by rw [hwr]; rfl
  simp only [hwv] at hw
  have hfp := fun W (h : Lay W) => fparse_any s W (by omega) h
  simp only [hp] at hfp
  obtain ⟨hp1, hp2⟩ := write_small hpw
  rw [bl_size] at hp1 hp2
  have hsm2 : SmS pm := sm_of hp2 (by omega)
  have hw2 := fun W (A' : Option Addr) c' (h : Lay W) (hA : StsR W W.heap.size A' pm) => fwrite_any pm A' c' W hA hsm2 (by omega) h.verb (by have := h.size; omega) h.pow
  have hwv2 : writeV (writeB pm) = .tuple #[.string s, .int .i64 0] := by rw [hpw]; rfl
  simp only [hwv2] at hw2
  have HW2 := hide hw2
  obtain ⟨Q, hQ⟩ : ∃ Q, Q = blB (quoteB (bl t)) := ⟨_, rfl⟩
  have hqm := quote_max (bl t)
  rw [bl_size] at hqm
  have hQz : Q.size ≤ 4194306 := by
    rw [hQ, blB_size]
    unfold quoteB
    rw [List.length_cons, List.length_append, List.length_singleton]
    omega
  have hq := fun W => fquote_any t W (by omega)
  simp only [← hQ] at hq
  have hz : (Q ++ m).size = Q.size + m.size := ByteArray.size_append
  have hu := fun W => funquote_any (Q ++ m) W (by omega)
  have huv : unqV (unquoteB (bl (Q ++ m))) = .tuple #[.string t, .string m, .int .i64 0] := by
    rw [bl_app, hQ, bl_blB, unquote_quote]
    rfl
  simp only [huv] at hu
  have hcat : Q.size + m.size ≤ 9223372036854775807 := by omega
  have HQ := hide hq
  have HU := hide hu
  have HFP := hide hfp
  have HW := hide hw
  have HL := hide hL
  have HA := hide hA
  have HB := hide (show Below w.heap.size w w from Below.refl _ _)
  have HLv := hide (fun W (h : Lay W) => lives_any W h)
  clear hq hu hfp hw hL hA hz huv hQ hqm hwv hwr hsm hl hl1 hl2 hp hp1 hp2 hsm2 hw2 hwv2 hpw
  go_enter Tryz.func5, Tryz.ntmps5
  go_wp2_with (first
    | (go_at_call 11; refine Calls.mono (HLv.out _ HL.out) ?_; rintro e w1 ⟨rfl, hb1⟩; have HA := hide ((HA.out.below hb1).more hb1.size); have HL := hide (HL.out.all hb1); have HB := hide (HB.out.trans (hb1.mono HB.out.size)); clear hb1)
    | (have hg := HPs; clear hg; go_at_call 9; refine Calls.mono (HW2.out _ _ _ HL.out HPs.out) ?_; rintro e w7 ⟨rfl, hb7⟩; have HA := hide ((HA.out.below hb7).more hb7.size); have HL := hide (HL.out.all hb7); have HB := hide (HB.out.trans (hb7.mono HB.out.size)); clear hb7)
    | (go_at_call 9; refine Calls.mono (HW.out _ HL.out HA.out) ?_; rintro e w2 ⟨rfl, hb2⟩; have HA := hide ((HA.out.below hb2).more hb2.size); have HL := hide (HL.out.all hb2); have HB := hide (HB.out.trans (hb2.mono HB.out.size)); clear hb2)
    | (have hg := HUq; clear hg; go_at_call 7; refine Calls.mono (HFP.out _ HL.out) ?_; rintro e w6 ⟨⟨V6, rfl, hst6⟩, hb6⟩; obtain ⟨A6, c6, rfl, hr6⟩ := hst6.rd; have HPs := hide hr6; clear hst6 hr6; have HA := hide ((HA.out.below hb6).more hb6.size); have HL := hide (HL.out.all hb6); have HB := hide (HB.out.trans (hb6.mono HB.out.size)); clear hb6)
    | (go_at_call 15; refine Calls.mono (HQ.out _) ?_; rintro e w5 ⟨rfl, hb5⟩; have HA := hide ((HA.out.below hb5).more hb5.size); have HL := hide (HL.out.all hb5); have HB := hide (HB.out.trans (hb5.mono HB.out.size)); clear hb5)
    | (go_at_call 13; refine Calls.mono (HU.out _) ?_; rintro e w8 ⟨rfl, hb8⟩; have HUq := hide hb8; have HA := hide ((HA.out.below hb8).more hb8.size); have HL := hide (HL.out.all hb8); have HB := hide (HB.out.trans (hb8.mono HB.out.size)); clear hb8))
  all_goals refine bodyPost_ret (v := .bool true) (by simp [results, Tryz.results5, go_sem]) rfl ?_
  all_goals exact ⟨rfl, HB.out⟩

set_option maxRecDepth 100000 in
set_option maxHeartbeats 16000000 in
theorem frontBack_10 (s : ByteArray) (l : List Stp) (A : Option Addr) (c : Nat) (t m : ByteArray) (w : World) (hs : s.size ≤ 1048576) (ht : t.size ≤ 1048576) (hm : m.size ≤ 1048576) (hA : StsR w w.heap.size A l) (hl : wtS l ≤ 1048576) (T0 : List UInt8) (hwr : writeB l = some T0) (n : Nat) (hp : parseB (bl s) = ([], n, 7)) (hL : Lay w) :
    Calls Tryz.prog 5 #[.string s, .slice A l.length c, .string t, .string m] w fun e w' => e = .returned (.bool true) ∧ Below w.heap.size w w' := by
  obtain ⟨hl1, hl2⟩ := wt_small hl
  have hsm : SmS l := sm_of hl2 (by decide)
  have hw := fun W (h : Lay W) (hA : StsR W W.heap.size A l) => fwrite_any l A c W hA hsm (by omega) h.verb (by have := h.size; omega) h.pow
  have hT0 : T0.length ≤ 5242880 := Nat.le_trans (write_wt hwr) (by omega)
  obtain ⟨T, hT⟩ : ∃ T, T = blB T0 := ⟨_, rfl⟩
  have hwv : writeV (writeB l) = .tuple #[.string T, .int .i64 0] := by rw [hwr, hT]; rfl
  simp only [hwv] at hw
  have hTp : parseB (bl T) = (l, l.length, 0) := by rw [hT, bl_blB]; exact parse_write hwr
  have hft := fun W (h : Lay W) => fparse_any T W (by rw [hT, blB_size]; omega) h
  simp only [hTp] at hft
  have hsame := fun W (A1 A2 : Option Addr) c1 c2 h1 h2 => same_any l l A1 A2 c1 c2 W (by omega) (fun x hx => by have := (hl2 x hx).2.2.2; omega) h1 h2
  simp only [decide_true] at hsame
  have HFT := hide hft
  have HSM := hide hsame
  have hfp := fun W (h : Lay W) => fparse_any s W (by omega) h
  simp only [hp] at hfp
  obtain ⟨Q, hQ⟩ : ∃ Q, Q = blB (quoteB (bl t)) := ⟨_, rfl⟩
  have hqm := quote_max (bl t)
  rw [bl_size] at hqm
  have hQz : Q.size ≤ 4194306 := by
    rw [hQ, blB_size]
    unfold quoteB
    rw [List.length_cons, List.length_append, List.length_singleton]
    omega
  have hq := fun W => fquote_any t W (by omega)
  simp only [← hQ] at hq
  have hz : (Q ++ m).size = Q.size + m.size := ByteArray.size_append
  have hu := fun W => funquote_any (Q ++ m) W (by omega)
  have huv : unqV (unquoteB (bl (Q ++ m))) = .tuple #[.string t, .string m, .int .i64 0] := by
    rw [bl_app, hQ, bl_blB, unquote_quote]
    rfl
  simp only [huv] at hu
  have hcat : Q.size + m.size ≤ 9223372036854775807 := by omega
  have HQ := hide hq
  have HU := hide hu
  have HFP := hide hfp
  have HW := hide hw
  have HL := hide hL
  have HA := hide hA
  have HB := hide (show Below w.heap.size w w from Below.refl _ _)
  have HLv := hide (fun W (h : Lay W) => lives_any W h)
  clear hq hu hfp hw hL hA hz huv hQ hqm hwv hwr hsm hl hl1 hl2 hp hft hsame hTp hT hT0
  go_enter Tryz.func5, Tryz.ntmps5
  go_wp2_with (first
    | (go_at_call 11; refine Calls.mono (HLv.out _ HL.out) ?_; rintro e w1 ⟨rfl, hb1⟩; have HA := hide ((HA.out.below hb1).more hb1.size); have HL := hide (HL.out.all hb1); have HB := hide (HB.out.trans (hb1.mono HB.out.size)); clear hb1)
    | (go_at_call 9; refine Calls.mono (HW.out _ HL.out HA.out) ?_; rintro e w2 ⟨rfl, hb2⟩; have HA := hide ((HA.out.below hb2).more hb2.size); have HL := hide (HL.out.all hb2); have HB := hide (HB.out.trans (hb2.mono HB.out.size)); clear hb2)
    | (have hg := HUq; clear hg; go_at_call 7; refine Calls.mono (HFP.out _ HL.out) ?_; rintro e w6 ⟨⟨V6, rfl, hst6⟩, hb6⟩; obtain ⟨A6, c6, rfl, hr6⟩ := hst6.rd; have HPs := hide hr6; clear hst6 hr6; have HA := hide ((HA.out.below hb6).more hb6.size); have HL := hide (HL.out.all hb6); have HB := hide (HB.out.trans (hb6.mono HB.out.size)); clear hb6)
    | (go_at_call 7; refine Calls.mono (HFT.out _ HL.out) ?_; rintro e w3 ⟨⟨V3, rfl, hst3⟩, hb3⟩; obtain ⟨A3, c3, rfl, hr3⟩ := hst3.rd; have HP3 := hide hr3; clear hst3 hr3; have HA := hide ((HA.out.below hb3).more hb3.size); have HL := hide (HL.out.all hb3); have HB := hide (HB.out.trans (hb3.mono HB.out.size)); clear hb3)
    | (go_at_call 12; refine Calls.mono (HSM.out _ _ _ _ _ HP3.out HA.out) ?_; rintro e w4 ⟨rfl, hb4⟩; have HA := hide ((HA.out.below hb4).more hb4.size); have HL := hide (HL.out.all hb4); have HB := hide (HB.out.trans (hb4.mono HB.out.size)); clear hb4)
    | (go_at_call 15; refine Calls.mono (HQ.out _) ?_; rintro e w5 ⟨rfl, hb5⟩; have HA := hide ((HA.out.below hb5).more hb5.size); have HL := hide (HL.out.all hb5); have HB := hide (HB.out.trans (hb5.mono HB.out.size)); clear hb5)
    | (go_at_call 13; refine Calls.mono (HU.out _) ?_; rintro e w8 ⟨rfl, hb8⟩; have HUq := hide hb8; have HA := hide ((HA.out.below hb8).more hb8.size); have HL := hide (HL.out.all hb8); have HB := hide (HB.out.trans (hb8.mono HB.out.size)); clear hb8))
  all_goals refine bodyPost_ret (v := .bool true) (by simp [results, Tryz.results5, go_sem]) rfl ?_
  all_goals exact ⟨rfl, HB.out⟩

set_option maxRecDepth 100000 in
set_option maxHeartbeats 16000000 in
theorem frontBack_11 (s : ByteArray) (l : List Stp) (A : Option Addr) (c : Nat) (t m : ByteArray) (w : World) (hs : s.size ≤ 1048576) (ht : t.size ≤ 1048576) (hm : m.size ≤ 1048576) (hA : StsR w w.heap.size A l) (hl : wtS l ≤ 1048576) (T0 : List UInt8) (hwr : writeB l = some T0) (pm : List Stp) (hpw : writeB pm = some (bl s)) (hp : parseB (bl s) = (pm, pm.length, 0)) (hL : Lay w) :
    Calls Tryz.prog 5 #[.string s, .slice A l.length c, .string t, .string m] w fun e w' => e = .returned (.bool true) ∧ Below w.heap.size w w' := by
  obtain ⟨hl1, hl2⟩ := wt_small hl
  have hsm : SmS l := sm_of hl2 (by decide)
  have hw := fun W (h : Lay W) (hA : StsR W W.heap.size A l) => fwrite_any l A c W hA hsm (by omega) h.verb (by have := h.size; omega) h.pow
  have hT0 : T0.length ≤ 5242880 := Nat.le_trans (write_wt hwr) (by omega)
  obtain ⟨T, hT⟩ : ∃ T, T = blB T0 := ⟨_, rfl⟩
  have hwv : writeV (writeB l) = .tuple #[.string T, .int .i64 0] := by rw [hwr, hT]; rfl
  simp only [hwv] at hw
  have hTp : parseB (bl T) = (l, l.length, 0) := by rw [hT, bl_blB]; exact parse_write hwr
  have hft := fun W (h : Lay W) => fparse_any T W (by rw [hT, blB_size]; omega) h
  simp only [hTp] at hft
  have hsame := fun W (A1 A2 : Option Addr) c1 c2 h1 h2 => same_any l l A1 A2 c1 c2 W (by omega) (fun x hx => by have := (hl2 x hx).2.2.2; omega) h1 h2
  simp only [decide_true] at hsame
  have HFT := hide hft
  have HSM := hide hsame
  have hfp := fun W (h : Lay W) => fparse_any s W (by omega) h
  simp only [hp] at hfp
  obtain ⟨hp1, hp2⟩ := write_small hpw
  rw [bl_size] at hp1 hp2
  have hsm2 : SmS pm := sm_of hp2 (by omega)
  have hw2 := fun W (A' : Option Addr) c' (h : Lay W) (hA : StsR W W.heap.size A' pm) => fwrite_any pm A' c' W hA hsm2 (by omega) h.verb (by have := h.size; omega) h.pow
  have hwv2 : writeV (writeB pm) = .tuple #[.string s, .int .i64 0] := by rw [hpw]; rfl
  simp only [hwv2] at hw2
  have HW2 := hide hw2
  obtain ⟨Q, hQ⟩ : ∃ Q, Q = blB (quoteB (bl t)) := ⟨_, rfl⟩
  have hqm := quote_max (bl t)
  rw [bl_size] at hqm
  have hQz : Q.size ≤ 4194306 := by
    rw [hQ, blB_size]
    unfold quoteB
    rw [List.length_cons, List.length_append, List.length_singleton]
    omega
  have hq := fun W => fquote_any t W (by omega)
  simp only [← hQ] at hq
  have hz : (Q ++ m).size = Q.size + m.size := ByteArray.size_append
  have hu := fun W => funquote_any (Q ++ m) W (by omega)
  have huv : unqV (unquoteB (bl (Q ++ m))) = .tuple #[.string t, .string m, .int .i64 0] := by
    rw [bl_app, hQ, bl_blB, unquote_quote]
    rfl
  simp only [huv] at hu
  have hcat : Q.size + m.size ≤ 9223372036854775807 := by omega
  have HQ := hide hq
  have HU := hide hu
  have HFP := hide hfp
  have HW := hide hw
  have HL := hide hL
  have HA := hide hA
  have HB := hide (show Below w.heap.size w w from Below.refl _ _)
  have HLv := hide (fun W (h : Lay W) => lives_any W h)
  clear hq hu hfp hw hL hA hz huv hQ hqm hwv hwr hsm hl hl1 hl2 hp hft hsame hTp hT hT0 hp1 hp2 hsm2 hw2 hwv2 hpw
  go_enter Tryz.func5, Tryz.ntmps5
  go_wp2_with (first
    | (go_at_call 11; refine Calls.mono (HLv.out _ HL.out) ?_; rintro e w1 ⟨rfl, hb1⟩; have HA := hide ((HA.out.below hb1).more hb1.size); have HL := hide (HL.out.all hb1); have HB := hide (HB.out.trans (hb1.mono HB.out.size)); clear hb1)
    | (have hg := HPs; clear hg; go_at_call 9; refine Calls.mono (HW2.out _ _ _ HL.out HPs.out) ?_; rintro e w7 ⟨rfl, hb7⟩; have HA := hide ((HA.out.below hb7).more hb7.size); have HL := hide (HL.out.all hb7); have HB := hide (HB.out.trans (hb7.mono HB.out.size)); clear hb7)
    | (go_at_call 9; refine Calls.mono (HW.out _ HL.out HA.out) ?_; rintro e w2 ⟨rfl, hb2⟩; have HA := hide ((HA.out.below hb2).more hb2.size); have HL := hide (HL.out.all hb2); have HB := hide (HB.out.trans (hb2.mono HB.out.size)); clear hb2)
    | (have hg := HUq; clear hg; go_at_call 7; refine Calls.mono (HFP.out _ HL.out) ?_; rintro e w6 ⟨⟨V6, rfl, hst6⟩, hb6⟩; obtain ⟨A6, c6, rfl, hr6⟩ := hst6.rd; have HPs := hide hr6; clear hst6 hr6; have HA := hide ((HA.out.below hb6).more hb6.size); have HL := hide (HL.out.all hb6); have HB := hide (HB.out.trans (hb6.mono HB.out.size)); clear hb6)
    | (go_at_call 7; refine Calls.mono (HFT.out _ HL.out) ?_; rintro e w3 ⟨⟨V3, rfl, hst3⟩, hb3⟩; obtain ⟨A3, c3, rfl, hr3⟩ := hst3.rd; have HP3 := hide hr3; clear hst3 hr3; have HA := hide ((HA.out.below hb3).more hb3.size); have HL := hide (HL.out.all hb3); have HB := hide (HB.out.trans (hb3.mono HB.out.size)); clear hb3)
    | (go_at_call 12; refine Calls.mono (HSM.out _ _ _ _ _ HP3.out HA.out) ?_; rintro e w4 ⟨rfl, hb4⟩; have HA := hide ((HA.out.below hb4).more hb4.size); have HL := hide (HL.out.all hb4); have HB := hide (HB.out.trans (hb4.mono HB.out.size)); clear hb4)
    | (go_at_call 15; refine Calls.mono (HQ.out _) ?_; rintro e w5 ⟨rfl, hb5⟩; have HA := hide ((HA.out.below hb5).more hb5.size); have HL := hide (HL.out.all hb5); have HB := hide (HB.out.trans (hb5.mono HB.out.size)); clear hb5)
    | (go_at_call 13; refine Calls.mono (HU.out _) ?_; rintro e w8 ⟨rfl, hb8⟩; have HUq := hide hb8; have HA := hide ((HA.out.below hb8).more hb8.size); have HL := hide (HL.out.all hb8); have HB := hide (HB.out.trans (hb8.mono HB.out.size)); clear hb8))
  all_goals refine bodyPost_ret (v := .bool true) (by simp [results, Tryz.results5, go_sem]) rfl ?_
  all_goals exact ⟨rfl, HB.out⟩

theorem frontBack_any (s : ByteArray) (l : List Stp) (A : Option Addr) (c : Nat) (t m : ByteArray) (w : World) (hs : s.size ≤ 1048576) (ht : t.size ≤ 1048576) (hm : m.size ≤ 1048576) (hA : StsR w w.heap.size A l) (hl : wtS l ≤ 1048576) (hL : Lay w) :
    Calls Tryz.prog 5 #[.string s, .slice A l.length c, .string t, .string m] w fun e w' => e = .returned (.bool true) ∧ Below w.heap.size w w' := by
  cases hwr : writeB l with
  | none =>
    rcases parse_cases (bl s) with ⟨pm, h1, h2⟩ | ⟨n, h2⟩
    · exact frontBack_01 s l A c t m w hs ht hm hA hl hwr pm h1 h2 hL
    · exact frontBack_00 s l A c t m w hs ht hm hA hl hwr n h2 hL
  | some T0 =>
    rcases parse_cases (bl s) with ⟨pm, h1, h2⟩ | ⟨n, h2⟩
    · exact frontBack_11 s l A c t m w hs ht hm hA hl T0 hwr pm h1 h2 hL
    · exact frontBack_10 s l A c t m w hs ht hm hA hl T0 hwr n h2 hL
end Go.Proofs.YtahnnebpadbopaaGreatDoor
/- Walk: wringerlaw32.FrontLine: a script that is none. -/
namespace Go.Proofs.YtahnnebpadbopaaGreatDoor
open Go.RowKit

set_option maxRecDepth 100000 in
set_option maxHeartbeats 16000000 in
/-- A script that is none. -/
theorem frontLine_bad (s : ByteArray) (x : Stp) (kv : Value) (w : World) (hs : s.size ≤ 1048576) (hkv : KpR w w.heap.size kv x.keep) (hsm : SmS [x]) (hr : rightS x = true) (hf : fitsN x.n = true) (hwt : (lineB x).length ≤ 10000000) (n : Nat) (hp : parseB (bl s) = ([], n, 7)) (hL : Lay w) :
    Calls Tryz.prog 6 #[.string s, .agg #[.int .u8 (x.kind : Nat), .string x.nm, .string x.to_, .string x.tx, .int .i64 x.n, kv]] w fun e w' => e = .returned (.bool true) ∧ Below w.heap.size w w' := by
  have hn := parse_lines (bl s)
  rw [bl_size, hp] at hn
  have hn' : n ≤ 1048576 := Nat.le_trans hn hs
  have hfp := fun W (h : Lay W) => fparse_any s W (by omega) h
  simp only [hp] at hfp
  obtain ⟨T, hT⟩ : ∃ T, T = blB (lineB x ++ [10]) := ⟨_, rfl⟩
  have hTz : T.size ≤ 10000001 := by rw [hT, blB_size, List.length_append, List.length_singleton]; omega
  have hTs : bl (T ++ s) = lineB x ++ 10 :: bl s := by rw [bl_app, hT, bl_blB, List.append_assoc]; rfl
  have hz : (T ++ s).size = T.size + s.size := ByteArray.size_append
  have hm := parse_more hr hf (bl s)
  rw [hp] at hm
  have hm' : parseB (bl (T ++ s)) = ([], n + 1, 7) := by rw [hTs, hm]; rfl
  obtain ⟨K, hK⟩ : ∃ K, K = n + 1 := ⟨_, rfl⟩
  rw [← hK] at hm'
  have hfp2 := fun W (h : Lay W) => fparse_any (T ++ s) W (by omega) h
  simp only [hm'] at hfp2
  have hKN : IntKind.i64.wrap ((K : Int) - (n : Int)) = 1 := by rw [show (K : Int) - (n : Int) = 1 by omega]; rfl
  have hcat : T.size + s.size ≤ 9223372036854775807 := by omega
  have hw := fun W h (hl : Lay W) (hb : Bk W h 39 #[.int .u8 (x.kind : Nat), .string x.nm, .string x.to_, .string x.tx, .int .i64 x.n, kv]) (hk : KpR W W.heap.size kv x.keep) => fwrite_any [x] (some ⟨h, 0, none⟩) 1 W (one_sts hb hk) hsm (by show 1 ≤ 2000000; decide) hl.verb (by have := hl.size; omega) hl.pow
  have hwv : writeV (writeB [x]) = .tuple #[.string T, .int .i64 0] := by
    have e : writeB [x] = some (lineB x ++ [10]) := by
      rw [writeB, hr, hf]
      rfl
    rw [e, hT]
    rfl
  simp only [hwv] at hw
  obtain ⟨W0, hW0⟩ : ∃ W0, W0 = w.alloc (.cells #[.int .u8 (x.kind : Nat), .string x.nm, .string x.to_, .string x.tx, .int .i64 x.n, kv] 39) := ⟨_, rfl⟩
  have hb0 : Below w.heap.size w W0 := by rw [hW0]; exact ba1 _ _
  have k0 : Bk W0 w.heap.size 39 #[.int .u8 (x.kind : Nat), .string x.nm, .string x.to_, .string x.tx, .int .i64 x.n, kv] := by rw [hW0]; exact Bk.new _ _ _
  obtain ⟨p0, p1, p2, p3, p4, p5⟩ := six_cells k0
  have lp := k0.lt
  have HW0 := hide hW0
  have HB0 := hide hb0
  have HK0 := hide k0
  have HFP := hide hfp
  have HFP2 := hide hfp2
  have HW := hide hw
  have HL := hide (hL.all hb0)
  have HK := hide ((hkv.below hb0).more hb0.size)
  have HLv := hide (fun W (h : Lay W) => lives_any W h)
  obtain ⟨xk, xa, xb, xc, xn, xl⟩ := x
  clear hW0 hb0 k0
  clear hfp hfp2 hw hL hkv hp hwv hm hm' hsm hT hTs hz hK hr hf hwt hn
  go_enter Tryz.func6, Tryz.ntmps6
  go_wp2_with (first
    | (go_at_call 11; rw [← HW0.out]; refine Calls.mono (HLv.out _ HL.out) ?_; rintro e w1 ⟨rfl, hb1⟩; have m1 := HK0.out.keep hb1; have M1 := hide m1; have HK1 := hide ((HK.out.below hb1).more hb1.size); have HL1 := hide (HL.out.all hb1); have HB1 := hide (HB0.out.trans (hb1.mono HB0.out.size)); clear hb1 m1)
    | (have hg := HL3; clear hg; go_at_call 7; refine Calls.mono (HFP2.out _ HL3.out) ?_; rintro e w4 ⟨⟨V4, rfl, hst4⟩, hb4⟩; obtain ⟨A4, c4, rfl, hr4⟩ := hst4.rd; have HB4 := hide (HB3.out.trans (hb4.mono HB3.out.size)); clear hst4 hr4 hb4)
    | (go_at_call 7; refine Calls.mono (HFP.out _ HL1.out) ?_; rintro e w2 ⟨⟨V2, rfl, hst2⟩, hb2⟩; obtain ⟨A2, c2, rfl, hr2⟩ := hst2.rd; have HK2 := hide ((HK1.out.below hb2).more hb2.size); have HL2 := hide (HL1.out.all hb2); have HB2 := hide (HB1.out.trans (hb2.mono HB1.out.size)); have m2 := M1.out.keep hb2; have M2 := hide m2; obtain ⟨r0, r1, r2, r3, r4, r5⟩ := six_cells m2; have lr := m2.lt; clear hst2 hr2 hb2 m2)
    | (go_at_call 9; refine Calls.mono (HW.out _ _ (HL2.out.all (ba1 _ _)) (Bk.new _ _ _) ((HK2.out.below (ba1 _ _)).more (ba1 _ _).size)) ?_; rintro e w3 ⟨rfl, hb3⟩; have hb3' := below_al hb3; have HL3 := hide (HL2.out.all hb3'); have HB3 := hide (HB2.out.trans (hb3'.mono HB2.out.size)); clear hb3 hb3'))
  all_goals refine bodyPost_ret (v := .bool true) (by simp [results, Tryz.results6, go_sem]) rfl ?_
  all_goals exact ⟨rfl, HB4.out⟩

end Go.Proofs.YtahnnebpadbopaaGreatDoor
/- Walk: wringerlaw32.FrontLine: a script, and a line more. -/
namespace Go.Proofs.YtahnnebpadbopaaGreatDoor
open Go.RowKit Go.Sort

set_option maxRecDepth 100000 in
set_option maxHeartbeats 16000000 in
/-- A script, and a line more. -/
theorem frontLine_ok (s : ByteArray) (x : Stp) (kv : Value) (w : World) (hs : s.size ≤ 1048576) (hkv : KpR w w.heap.size kv x.keep) (hsm : SmS [x]) (hr : rightS x = true) (hf : fitsN x.n = true) (hwt : (lineB x).length ≤ 10000000) (l : List Stp) (hp : parseB (bl s) = (l, l.length, 0)) (hL : Lay w) :
    Calls Tryz.prog 6 #[.string s, .agg #[.int .u8 (x.kind : Nat), .string x.nm, .string x.to_, .string x.tx, .int .i64 x.n, kv]] w fun e w' => e = .returned (.bool true) ∧ Below w.heap.size w w' := by
  obtain ⟨hp1, hp2⟩ := parse_small (bl s)
  rw [bl_size, hp] at hp1 hp2
  have hl1 : l.length ≤ 1048576 := Nat.le_trans hp1 hs
  have hl2 : ∀ y ∈ l, y.keep.length ≤ 1000000000 := fun y hy => by have := (hp2 y hy).2.2.2; omega
  obtain ⟨L, hLe⟩ : ∃ L, L = l.length := ⟨_, rfl⟩
  have hfp := fun W (h : Lay W) => fparse_any s W (by omega) h
  simp only [hp] at hfp
  obtain ⟨T, hT⟩ : ∃ T, T = blB (lineB x ++ [10]) := ⟨_, rfl⟩
  have hTz : T.size ≤ 10000001 := by rw [hT, blB_size, List.length_append, List.length_singleton]; omega
  have hTs : bl (T ++ s) = lineB x ++ 10 :: bl s := by rw [bl_app, hT, bl_blB, List.append_assoc]; rfl
  have hz : (T ++ s).size = T.size + s.size := ByteArray.size_append
  have hm := parse_more hr hf (bl s)
  rw [hp] at hm
  have hm' : parseB (bl (T ++ s)) = (x :: l, l.length + 1, 0) := by rw [hTs, hm]; rfl
  obtain ⟨K, hK⟩ : ∃ K, K = l.length + 1 := ⟨_, rfl⟩
  have hK2 : (x :: l).length = K := by rw [hK]; rfl
  rw [← hK] at hm'
  have hfp2 := fun W (h : Lay W) => fparse_any (T ++ s) W (by omega) h
  simp only [hm'] at hfp2
  rw [← hLe] at hl1 hK
  simp only [← hLe] at hfp
  have hKN : IntKind.i64.wrap ((K : Int) - (L : Int)) = 1 := by rw [show (K : Int) - (L : Int) = 1 by omega]; rfl
  have hK1 : K - 1 = L := by omega
  have hK0 : 1 ≤ K := by omega
  have hK00 : 0 < K := by omega
  have hK01 : (1 : Int) ≤ (K : Int) := by omega
  have hKz : K ≤ 1048577 := by omega
  have hcat : T.size + s.size ≤ 9223372036854775807 := by omega
  have hsame := fun W (A1 A2 : Option Addr) c1 c2 h1 h2 => same_any l l A1 A2 c1 c2 W (by omega) hl2 h1 h2
  simp only [decide_true, ← hLe] at hsame
  have hw := fun W h (hl : Lay W) (hb : Bk W h 39 #[.int .u8 (x.kind : Nat), .string x.nm, .string x.to_, .string x.tx, .int .i64 x.n, kv]) (hk : KpR W W.heap.size kv x.keep) => fwrite_any [x] (some ⟨h, 0, none⟩) 1 W (one_sts hb hk) hsm (by show 1 ≤ 2000000; decide) hl.verb (by have := hl.size; omega) hl.pow
  have hwv : writeV (writeB [x]) = .tuple #[.string T, .int .i64 0] := by
    have e : writeB [x] = some (lineB x ++ [10]) := by
      rw [writeB, hr, hf]
      rfl
    rw [e, hT]
    rfl
  simp only [hwv] at hw
  have hss := fun W A A' c c' h1 h2 => samestep_any x.kind x.kind x.nm x.nm x.to_ x.to_ x.tx x.tx x.n x.n x.keep x.keep A A' c c' W (by have := (hsm x (List.mem_singleton.2 rfl)).2.2.2; omega) h1 h2
  simp only [decide_true] at hss
  obtain ⟨kA, kc, rfl, hkr⟩ := hkv
  obtain ⟨W0, hW0⟩ : ∃ W0, W0 = w.alloc (.cells #[.int .u8 (x.kind : Nat), .string x.nm, .string x.to_, .string x.tx, .int .i64 x.n, (.slice kA x.keep.length kc)] 39) := ⟨_, rfl⟩
  have hb0 : Below w.heap.size w W0 := by rw [hW0]; exact ba1 _ _
  have k0 : Bk W0 w.heap.size 39 #[.int .u8 (x.kind : Nat), .string x.nm, .string x.to_, .string x.tx, .int .i64 x.n, (.slice kA x.keep.length kc)] := by rw [hW0]; exact Bk.new _ _ _
  obtain ⟨p0, p1, p2, p3, p4, p5⟩ := six_cells k0
  have lp := k0.lt
  have HW0 := hide hW0
  have HB0 := hide hb0
  have HK0 := hide k0
  have HFP := hide hfp
  have HFP2 := hide hfp2
  have HW := hide hw
  have HL := hide (hL.all hb0)
  have HK := hide (((show KpR w w.heap.size (.slice kA x.keep.length kc) x.keep from ⟨kA, kc, rfl, hkr⟩).below hb0).more hb0.size)
  have HSM := hide hsame
  have HSS := hide hss
  have HLe := hide hLe
  have HK2 := hide hK2
  have HLv := hide (fun W (h : Lay W) => lives_any W h)
  clear hW0 hb0 k0
  clear hfp hfp2 hw hL hkr hp hwv hm hm' hsm hT hTs hz hK hr hf hwt hsame hss hLe hK2 hp1 hp2 hl2
  go_enter Tryz.func6, Tryz.ntmps6
  go_wp2_with (first
    | (go_at_call 11; rw [← HW0.out]; refine Calls.mono (HLv.out _ HL.out) ?_; rintro e w1 ⟨rfl, hb1⟩; have m1 := HK0.out.keep hb1; have M1 := hide m1; have HK1 := hide ((HK.out.below hb1).more hb1.size); have HL1 := hide (HL.out.all hb1); have HB1 := hide (HB0.out.trans (hb1.mono HB0.out.size)); clear hb1 m1)
    | (have hg := HL3; clear hg; go_at_call 7; refine Calls.mono (HFP2.out _ HL3.out) ?_; rintro e w4 ⟨⟨V4, rfl, hst4⟩, hb4⟩; obtain ⟨A4, c4, rfl, hc4, hr4⟩ := hst4.form; rw [HK2.out] at hc4; rw [HK2.out]; obtain ⟨bb, oo, kw, rfl, hbb, hkw, q0, q1, q2, q3, q4, q5⟩ := stp_cells hr4 (show (x :: l)[0]? = some x from rfl); simp only [Nat.zero_mul, Nat.add_zero] at q0 q1 q2 q3 q4 q5; obtain ⟨kB, kd, rfl, hkB⟩ := hkw; have HR4 := hide hr4; have HKB := hide hkB; have HQ4 := hide ((HK3.out.below hb4).more hb4.size); have HS4 := hide ((HS3.out.below hb4).more hb4.size); have HB4 := hide (HB3.out.trans (hb4.mono HB3.out.size)); have m4 := M3.out.keep hb4; obtain ⟨t0, t1, t2, t3, t4, t5⟩ := six_cells m4; have lt4 := m4.lt; have lb4 : bb < w4.heap.size := hbb; clear hst4 hr4 hb4 hkB m4 hbb r0 r1 r2 r3 r4 r5 lr)
    | (go_at_call 7; refine Calls.mono (HFP.out _ HL1.out) ?_; rintro e w2 ⟨⟨V2, rfl, hst2⟩, hb2⟩; obtain ⟨A2, c2, rfl, hr2⟩ := hst2.rd; rw [← HLe.out]; have HS2 := hide hr2; have HK2' := hide ((HK1.out.below hb2).more hb2.size); have HL2 := hide (HL1.out.all hb2); have HB2 := hide (HB1.out.trans (hb2.mono HB1.out.size)); have m2 := M1.out.keep hb2; have M2 := hide m2; obtain ⟨r0, r1, r2, r3, r4, r5⟩ := six_cells m2; have lr := m2.lt; clear hst2 hr2 hb2 m2)
    | (go_at_call 9; refine Calls.mono (HW.out _ _ (HL2.out.all (ba1 _ _)) (Bk.new _ _ _) ((HK2'.out.below (ba1 _ _)).more (ba1 _ _).size)) ?_; rintro e w3 ⟨rfl, hb3⟩; have hb3' := below_al hb3; have M3 := hide (M2.out.keep hb3'); have HK3 := hide ((HK2'.out.below hb3').more hb3'.size); have HS3 := hide ((HS2.out.below hb3').more hb3'.size); have HL3 := hide (HL2.out.all hb3'); have HB3 := hide (HB2.out.trans (hb3'.mono HB2.out.size)); clear hb3 hb3'))
  obtain ⟨_, _, e4, hrA⟩ := HQ4.out
  cases e4
  have hss := fun (d : Nat) (os : Array Obj) => HSS.out (grow (redrawn w4 d) os) kB kA kd kc ((HKB.out.below (below_regrown w4 d os)).more (below_regrown w4 d os).size) ((hrA.below (below_regrown w4 d os)).more (below_regrown w4 d os).size)
  have cf := fun d os => Calls.regrown_of (w := w4) (d := d) (os := os) (hss d os)
  have CF := hide cf
  have hmx : Tryz.prog.follows .mixedOrders = true := by kernel_rfl
  have m0 := cell_regrown q0
  have m1 := cell_regrown q1
  have m2 := cell_regrown q2
  have m3 := cell_regrown q3
  have m4 := cell_regrown q4
  have m5 := cell_regrown q5
  have n0 := cell_regrown t0
  have n1 := cell_regrown t1
  have n2 := cell_regrown t2
  have n3 := cell_regrown t3
  have n4 := cell_regrown t4
  have n5 := cell_regrown t5
  clear hss cf q0 q1 q2 q3 q4 q5 t0 t1 t2 t3 t4 t5 hrA p0 p1 p2 p3 p4 p5 lp
  have hc4p : 1 ≤ c4 := Nat.le_trans hK0 hc4
  by_cases h1 : c4 = 1
  · have hl0 : L = 0 := by omega
    have hln : l = [] := List.eq_nil_of_length_eq_zero (by rw [← HLe.out]; exact hl0)
    have hsm2 := fun (d : Nat) (os : Array Obj) => HSM.out (grow (redrawn w4 d) os) (some ⟨bb, oo, none⟩) A2 0 c2 (by rw [hln]; exact ⟨[], rfl, fun i u hu => by simp [flatS] at hu, fun i s v hs => by simp at hs⟩) ((HS4.out.below (below_regrown w4 d os)).more (below_regrown w4 d os).size)
    have cg := fun d os => Calls.regrown_of (w := w4) (d := d) (os := os) (hsm2 d os)
    have CG := hide cg
    clear cg hsm2 hl0 hln
    refine wp_region_quiet_below hmx (by kernel_rfl) ?_
    repeat (quiet_step (first | with_reducible exact CF.out _ _ | with_reducible exact CG.out _ _))
    refine wpQuiet_nil ?_
    intro _ hw'
    obtain ⟨⟨dq, osq⟩, hw''⟩ := hw'
    subst hw''
    dsimp only
    have HB5 : Hid (Below w.heap.size w (grow (redrawn w4 dq) osq)) := hide (HB4.out.trans ((below_regrown w4 dq osq).mono HB4.out.size))
    go_wp2_with fail
    refine bodyPost_ret (v := .bool true) (by simp [results, Tryz.results6, go_sem]) rfl ?_
    exact ⟨rfl, HB5.out⟩
  · have hsm2 := fun (d : Nat) (os : Array Obj) => HSM.out (grow (redrawn w4 d) os) (some ⟨bb, oo + 6, none⟩) A2 (c4 - 1) c2 ((HR4.out.tail.below (below_regrown w4 d os)).more (below_regrown w4 d os).size) ((HS4.out.below (below_regrown w4 d os)).more (below_regrown w4 d os).size)
    have cg := fun d os => Calls.regrown_of (w := w4) (d := d) (os := os) (hsm2 d os)
    have CG := hide cg
    clear cg hsm2
    refine wp_region_quiet_below hmx (by kernel_rfl) ?_
    repeat (quiet_step (first | with_reducible exact CF.out _ _ | with_reducible exact CG.out _ _))
    refine wpQuiet_nil ?_
    intro _ hw'
    obtain ⟨⟨dq, osq⟩, hw''⟩ := hw'
    subst hw''
    dsimp only
    have HB5 : Hid (Below w.heap.size w (grow (redrawn w4 dq) osq)) := hide (HB4.out.trans ((below_regrown w4 dq osq).mono HB4.out.size))
    go_wp2_with fail
    refine bodyPost_ret (v := .bool true) (by simp [results, Tryz.results6, go_sem]) rfl ?_
    exact ⟨rfl, HB5.out⟩
theorem frontLine_any (s : ByteArray) (x : Stp) (kv : Value) (w : World) (hs : s.size ≤ 1048576) (hkv : KpR w w.heap.size kv x.keep) (hx : wtOne x ≤ 1048576) (hL : Lay w) :
    Calls Tryz.prog 6 #[.string s, stpV x kv] w fun e w' => e = .returned (.bool true) ∧ Below w.heap.size w w' := by
  obtain ⟨_, hx2⟩ := wt_small (l := [x]) (n := 1048576) (by show wtOne x + 0 ≤ _; omega)
  have hsm : SmS [x] := sm_of hx2 (by decide)
  cases hr : rightS x with
  | false => exact frontLine_no s x kv w hs hkv hsm (by rw [writeB, hr]; rfl) hL
  | true =>
    cases hf : fitsN x.n with
    | false => exact frontLine_no s x kv w hs hkv hsm (by rw [writeB, hr, hf]; rfl) hL
    | true =>
      have hwt : (lineB x).length ≤ 10000000 := by
        have := line_wt hf
        omega
      rcases parse_cases (bl s) with ⟨l, _, h2⟩ | ⟨n, h2⟩
      · exact frontLine_ok s x kv w hs hkv hsm hr hf hwt l h2 hL
      · exact frontLine_bad s x kv w hs hkv hsm hr hf hwt n h2 hL
end Go.Proofs.YtahnnebpadbopaaGreatDoor
