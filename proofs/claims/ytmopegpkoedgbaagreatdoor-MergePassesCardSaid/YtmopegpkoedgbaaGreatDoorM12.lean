/- Lemmas for the row: InsC. -/
import Derived.Test.YtmopegpkoedgbaaGreatDoorM11
import Derived.Laws.Externs
import Derived.Lib.Overlaps
set_option linter.unusedVariables false
set_option linter.unusedSimpArgs false
/- Walk: slices.Insert at extents: within, where there is room: in place. All roads joined. -/
namespace Go.Proofs.YtmopegpkoedgbaaGreatDoor
open Go.RowKit Go.Sort

set_option maxRecDepth 100000 in
set_option maxHeartbeats 4000000 in
theorem insert_room (g vb i c : Nat) (l : List Ext) (x : Ext) (w : World) (ho : w.ownsRow 0 77 2 (.slice (some ⟨g, 0, none⟩) l.length c) l.length (flatE l)) (hv : Bk w vb 77 #[.string x.nm, .string x.dt]) (hne : vb ≠ g) (hl : l.length ≤ 1000000) (hi : i < l.length) (hc : l.length < c) :
    Calls Tryz.prog 152 #[.slice (some ⟨g, 0, none⟩) l.length c, .int .i64 i, .slice (some ⟨vb, 0, none⟩) 1 1] w fun e w' => (∃ A' c', e = .returned (.slice A' (l.length + 1) c') ∧ w'.ownsRow 0 77 2 (.slice A' (l.length + 1) c') (l.length + 1) (flatE (insE l i x)) ∧ ∀ k, (Value.slice A' (l.length + 1) c').ownBlock = some k → (Value.slice (some ⟨g, 0, none⟩) l.length c).ownBlock = some k ∨ w.heap.size ≤ k) ∧ w.grownBy w' (Value.slice (some ⟨g, 0, none⟩) l.length c).ownBlock := by
  have hrd := own_rdk ho
  obtain ⟨cur, hBg, hk, hcm, hcs, hct⟩ : ∃ cur, 0 ≤ g ∧ Bk w g 77 cur ∧ c ≤ maxLen ∧ cur.size = c * 2 ∧ cur.toList.take (l.length * 2) = flatE l := by
    rcases ho.2 with ⟨hv, h0⟩ | ⟨g', cap, cur, hv, hb, hg, hnc, hcm, hcs, ht⟩
    · simp at hv
    · simp only [Value.slice.injEq, Option.some.injEq, Addr.mk.injEq, true_and, and_true] at hv
      obtain ⟨rfl, rfl⟩ := hv
      exact ⟨cur, hb, hg, hcm, hcs, ht⟩
  obtain ⟨n, hn⟩ : ∃ n, n = l.length := ⟨_, rfl⟩
  have hshv : w.shape? vb = some (77, 2) := by unfold Bk at hv; simp [World.shape?, hv]
  have hshg : w.shape? g = some (77, cur.size) := by unfold Bk at hk; simp [World.shape?, hk]
  have hcI : c ≤ 9223372036854775807 := by unfold maxLen at hcm; omega
  rw [← hn] at hct hi hc hl ⊢
  have hov : ∀ lb cb, (callFunc 189 #[.slice (some ⟨vb, 0, none⟩) 1 1, .slice (some ⟨g, (i + 1) * 2, none⟩) lb cb]).run Tryz.prog w = .ok (.value (.bool false)) w := fun lb cb => by
    rw [run_callFunc_extern Tryz.func189 (by kernel_rfl) (by kernel_rfl) (by kernel_rfl) (e := Extern.SlicesOverlaps.overlaps #[22, 22] #[4]) (by kernel_rfl),
      Lib.run_overlaps_apart w 22 4 77 Tryz.underlying22 2 Tryz.sizeOf77 ⟨vb, 0, none⟩ ⟨g, (i + 1) * 2, none⟩ 1 1 lb cb hne _ _ _ _ hshv hshg (by omega) (hv.free 0) (hv.free 2)]
    rfl
  have e1 : ¬ (c = i) := by omega
  have e2 : ¬ (c = i + 1) := by omega
  have e4 : ¬ ((i : Int) = (n : Int)) := by omega
  have e5 : ¬ ((c : Int) < (n : Int) + 1) := by omega
  have e6 : (i : Int) ≤ (n : Int) := by omega
  have e7 : IntKind.i64.wrap ((i : Int) + 1) = (i : Int) + 1 := IntWalk.i64_in _ ⟨by omega, by omega⟩
  have e10 : (0 : Int) ≤ (i : Int) + 1 := by omega
  have e11 : ((i : Int) + 1).toNat = i + 1 := by omega
  have e12 : IntKind.i64.wrap ((n : Int) + 1) = (n : Int) + 1 := IntWalk.i64_in _ ⟨by omega, by omega⟩
  have e13 : (0 : Int) ≤ (n : Int) + 1 := by omega
  have e14 : ((n : Int) + 1).toNat = n + 1 := by omega
  have e15 : (n : Int) + 1 ≤ (c : Int) := by omega
  have e16 : n + 1 ≤ c := by omega
  have e17 : (i : Int) + 1 ≤ (n : Int) + 1 := by omega
  have e18 : i + 1 ≤ n + 1 := by omega
  have e19 : i ≤ n + 1 := by omega
  have e20 : (i : Int) ≤ (n : Int) + 1 := by omega
  have e21 : i ≤ n := by omega
  have hap : flatE l = flatE (l.take i) ++ flatE (l.drop i) := by rw [← flatE_app, List.take_append_drop]
  have hlt : (flatE (l.take i)).length = i * 2 := by rw [flatE_length, List.length_take]; omega
  have hdl : (flatE (l.drop i)).length = (n - i) * 2 := by rw [flatE_length, List.length_drop, ← hn]
  have hsrc : ∀ j v, (flatE (l.drop i))[j]? = some v → w.drew.cell? ((⟨g, i * 2, none⟩ : Addr).add j) = some v := fun j v hj => by
    have hj2 : (flatE l)[i * 2 + j]? = some v := by rw [hap, List.getElem?_append_right (by omega), hlt, Nat.add_sub_cancel_left]; exact hj
    obtain ⟨b, o, e, hb, hc⟩ := hrd _ _ hj2
    cases e
    rw [Addr.add_lit]
    rw [Nat.zero_add] at hc
    exact hc
  have hcti : cur.toList.take (i * 2) = flatE (l.take i) := by
    have h1 : (cur.toList.take (n * 2)).take (i * 2) = (flatE l).take (i * 2) := by rw [hct]
    rw [List.take_take, show min (i * 2) (n * 2) = i * 2 by omega, hap, ← hlt, List.take_left] at h1
    rw [← hlt]; exact h1
  have HOv := hide hov
  have HK := hide hk
  have HV := hide hv
  have HSrc := hide hsrc
  have HDl := hide hdl
  have HCs := hide hcs
  have HCti := hide hcti
  have HLt := hide hlt
  have HN := hide hn
  have HCm := hide hcm
  have HNe := hide hne
  clear hov hk hv hsrc hdl hcs hcti hlt hn hcm hne hrd ho hct hap hshv hshg
  go_enter Tryz.func152, Tryz.ntmps152
  go_upto_region 15 with (simp only [HOv.out])
  go_region_law (
    refine step_copy_k 2 rfl (.tmp 73) (.tmp 76) 22 22 rfl 77 Tryz.underlying22 size_ext g ((i + 1) * 2) (n + 1 - (i + 1)) (c - (i + 1)) ⟨g, i * 2, none⟩ (n + 1 - i) (c - i) (n - i) ?_ ?_ cur 77 HK.out.drew (flatE (l.drop i)) ?_ HDl.out HSrc.out ?_ flatE_one ?_
    · simp [Act.eval, Act.put]
    · simp [Act.eval, Act.put]
    · simp only [Nat.min_def]; split <;> omega
    · rw [HDl.out, HCs.out]; omega
    intro w3 hk3 hf3
    have HK3 := hide hk3
    have HF3 := hide hf3
    clear hk3 hf3)
  obtain ⟨C1, hC1⟩ : ∃ C1 : Array Value, C1 = (cur.toList.take ((i + 1) * 2) ++ (flatE (l.drop i) ++ cur.toList.drop ((i + 1) * 2 + (flatE (l.drop i)).length))).toArray := ⟨_, rfl⟩
  rw [← hC1] at HK3
  have hs1 : C1.size = c * 2 := by
    have := HCs.out
    have h2 := HDl.out
    rw [hC1]
    simp only [List.size_toArray, List.length_append, List.length_take, List.length_drop, h2, Array.length_toList, this]
    omega
  have ht1 : C1.toList.take (i * 2) = flatE (l.take i) := by
    have h1 : (cur.toList.take ((i + 1) * 2)).take (i * 2) = flatE (l.take i) := by rw [List.take_take, show min (i * 2) ((i + 1) * 2) = i * 2 by omega]; exact HCti.out
    rw [hC1, List.toList_toArray, List.take_append_of_le_length (by have := HCs.out; simp; omega)]
    exact h1
  have hd1 : ∃ R, C1.toList.drop (i * 2 + 2) = flatE (l.drop i) ++ R := by
    refine ⟨cur.toList.drop ((i + 1) * 2 + (flatE (l.drop i)).length), ?_⟩
    rw [hC1, List.toList_toArray]
    have : i * 2 + 2 = (cur.toList.take ((i + 1) * 2)).length := by have := HCs.out; simp; omega
    rw [this]
    exact List.drop_left
  have HS1 := hide hs1
  have HT1 := hide ht1
  have HD1 := hide hd1
  have hv3 := (HV.out.drew).fr HF3.out (show ¬ vb = g from HNe.out)
  have HV3 := hide hv3
  clear hs1 ht1 hd1 hC1 hv3
  all_goals
    go_wp2_with (
      refine wpList_copy_k 2 rfl _ _ 22 22 rfl 77 Tryz.underlying22 size_ext g (i * 2) (n + 1 - i) (c - i) ⟨vb, 0, none⟩ 1 1 1 rfl rfl C1 77 HK3.out [.string x.nm, .string x.dt] ?_ ?_ ?_ ?_ ?_ ?_
      · simp only [Nat.min_def]; split <;> omega
      · rfl
      · exact cell_of HV3.out
      · rw [HS1.out]; simp; omega
      · intro u hu; simp at hu; rcases hu with rfl | rfl <;> rfl
      intro w4 hk4 hf4
      have HK4 := hide hk4
      have HF4 := hide hf4
      clear hk4 hf4)
    go_ret
    have hfr : Fr (fun k => k = g) w w4 := ((Fr.refl (fun k => k = g) w).drew.trans HF3.out (fun k hk => .inl hk)).trans HF4.out (fun k hk => .inl hk)
    refine ⟨⟨some ⟨g, 0, none⟩, c, rfl, ?_, fun k hk => .inl (by simpa [Value.ownBlock] using hk)⟩, ⟨hfr.os, hfr.tape, hfr.output, hfr.size, fun k hk hne => hfr.block k hk (fun e => hne (by rw [e]; rfl))⟩⟩
    obtain ⟨R, hR⟩ := HD1.out
    have hfl : flatE (insE l i x) = flatE (l.take i) ++ [Value.string x.nm, .string x.dt] ++ flatE (l.drop i) := by
      unfold insE
      rw [flatE_app, List.append_assoc]; rfl
    have hnl := HN.out
    refine ⟨by rw [hfl, List.length_append, List.length_append, HDl.out, HLt.out]; simp; omega, .inr ⟨g, c, _, rfl, hBg, HK4.out, e16, HCm.out, ?_, ?_⟩⟩
    · have := HS1.out
      simp only [List.size_toArray, List.length_append, List.length_take, List.length_drop, Array.length_toList, this]
      simp
      omega
    · rw [List.toList_toArray, HT1.out, hfl]
      have h2 : ([Value.string x.nm, .string x.dt]).length = 2 := rfl
      rw [h2, hR, ← List.append_assoc, ← List.append_assoc]
      have : (n + 1) * 2 = (flatE (l.take i) ++ [Value.string x.nm, .string x.dt] ++ flatE (l.drop i)).length := by
        rw [List.length_append, List.length_append, HDl.out, HLt.out]; simp; omega
      rw [this]
      exact List.take_left
/-- slices.Insert of one extent, wherever. -/
theorem insert_any (A : Option Addr) (c vb i : Nat) (l : List Ext) (x : Ext) (w : World) (ho : w.ownsRow 0 77 2 (.slice A l.length c) l.length (flatE l)) (hv : Bk w vb 77 #[.string x.nm, .string x.dt]) (hne : (Value.slice A l.length c).ownBlock ≠ some vb) (hl : l.length ≤ 1000000) (hi : i ≤ l.length) :
    Calls Tryz.prog 152 #[.slice A l.length c, .int .i64 i, .slice (some ⟨vb, 0, none⟩) 1 1] w fun e w' => (∃ A' c', e = .returned (.slice A' (l.length + 1) c') ∧ w'.ownsRow 0 77 2 (.slice A' (l.length + 1) c') (l.length + 1) (flatE (insE l i x)) ∧ ∀ k, (Value.slice A' (l.length + 1) c').ownBlock = some k → (Value.slice A l.length c).ownBlock = some k ∨ w.heap.size ≤ k) ∧ w.grownBy w' (Value.slice A l.length c).ownBlock := by
  rcases Nat.lt_or_ge i l.length with h | h
  · obtain ⟨g, rfl, hc⟩ := own_some ho (by omega)
    rcases Nat.lt_or_ge l.length c with h1 | h1
    · exact insert_room g vb i c l x w ho hv (fun e => hne (by rw [e]; rfl)) hl h h1
    · obtain rfl : c = l.length := by omega
      exact insert_grow g vb i l x w ho hv hl h
  · obtain rfl : i = l.length := by omega
    exact insert_end A c vb l x w ho hv hl
end Go.Proofs.YtmopegpkoedgbaaGreatDoor
