/- Lemmas for the row: InsB. -/
import Derived.Test.YtmopegpkoedgbaaGreatDoorM10
import Derived.Lib.AppendZerosOnto
set_option linter.unusedVariables false
set_option linter.unusedSimpArgs false
/- Walk: slices.Insert at extents: within, where there is no room: a new row. -/
namespace Go.Proofs.YtmopegpkoedgbaaGreatDoor
open Go.RowKit Go.Sort

theorem fr_setRow (w : World) (g : Nat) (cs : Array Value) : Fr (fun x => x = g) w (w.setRow g cs) :=
  ⟨rfl, rfl, rfl, by simp [World.setRow], fun k _ hk => setRow_other w g k cs (by omega)⟩
theorem wpList_copy_k {P : Program} {w : World} {ops : Array Oper} {rest : List Oper} {o : Oper} {a : Act} {Q : Exit → Act → World → Prop} (k : Nat) (hgd : o.guard = none) (d s : Operand) (dT sT : TypeId)
    (ho : o.op = .call { callee := .builtin .copy, args := #[d, s], argTypes := #[dT, sT] }) (elem : TypeId) (hu : P.underlying dT = some (.slice elem)) (hsz : (P.info? elem).map (·.size) = some k)
    (g off dLen dCap : Nat) (ad : Addr) (sLen sCap n : Nat) (hd : a.eval d = .slice (some ⟨g, off, none⟩) dLen dCap) (hs : a.eval s = .slice (some ad) sLen sCap)
    (cur : Array Value) (t : TypeId) (hg : Bk w g t cur) (cs : List Value) (hm : n = Nat.min sLen dLen) (hn : cs.length = n * k)
    (hsrc : ∀ j v, cs[j]? = some v → w.cell? (ad.add j) = some v) (hfit : off + cs.length ≤ cur.size) (h1 : ∀ v ∈ cs, v.oneCell' = true)
    (h : ∀ w', Bk w' g t (cur.toList.take off ++ (cs ++ cur.toList.drop (off + cs.length))).toArray → Fr (fun x => x = g) w w' → wpList P ops Q rest (a.put o.dst (goInt n)) w') : wpList P ops Q (o :: rest) a w := by
  refine wpList_plain hgd fun K hK => ?_
  have hrun := run_copy_rowk (P := P) k w dT sT o.type elem g off dLen dCap ad sLen sCap n cur t cs hu hsz hg hm hn hsrc hfit h1
  unfold Oper.wp
  simp [execOp, ho, resolve, invoke, builtin, hd, hs, hrun, Result.andThen]
  exact hK _ _ (h _ (setRow_heap w g cur _ t _ hg) (fr_setRow _ _ _))
theorem step_copy_k {P : Program} {ops : Array Oper} {o : Oper} {a : Act} {w : World} {K : Act → World → Prop} {Q : Exit → Act → World → Prop} {E : Prop} (k : Nat) (hgd : o.guard = none) (d s : Operand) (dT sT : TypeId)
    (ho : o.op = .call { callee := .builtin .copy, args := #[d, s], argTypes := #[dT, sT] }) (elem : TypeId) (hu : P.underlying dT = some (.slice elem)) (hsz : (P.info? elem).map (·.size) = some k)
    (g off dLen dCap : Nat) (ad : Addr) (sLen sCap n : Nat) (hd : a.eval d = .slice (some ⟨g, off, none⟩) dLen dCap) (hs : a.eval s = .slice (some ad) sLen sCap)
    (cur : Array Value) (t : TypeId) (hg : Bk w g t cur) (cs : List Value) (hm : n = Nat.min sLen dLen) (hn : cs.length = n * k)
    (hsrc : ∀ j v, cs[j]? = some v → w.cell? (ad.add j) = some v) (hfit : off + cs.length ≤ cur.size) (h1 : ∀ v ∈ cs, v.oneCell' = true)
    (h : ∀ w', Bk w' g t (cur.toList.take off ++ (cs ++ cur.toList.drop (off + cs.length))).toArray → Fr (fun x => x = g) w w' → K (a.put o.dst (goInt n)) w') :
    if Region.wanted o (yielded ops a.tmps) = true then Oper.wp P o a w K Q else E := by
  have hw : Region.wanted o (yielded ops a.tmps) = true := by simp [Region.wanted, hgd]
  rw [if_pos hw]
  have hrun := run_copy_rowk (P := P) k w dT sT o.type elem g off dLen dCap ad sLen sCap n cur t cs hu hsz hg hm hn hsrc hfit h1
  unfold Oper.wp
  simp [execOp, ho, resolve, invoke, builtin, hd, hs, hrun, Result.andThen]
  exact h _ (setRow_heap w g cur _ t _ hg) (fr_setRow _ _ _)
theorem cell_of {w : World} {g : Nat} {t : TypeId} {a b : Value} (h : Bk w g t #[a, b]) : ∀ j u, ([a, b])[j]? = some u → w.cell? ((⟨g, 0, none⟩ : Addr).add j) = some u := fun j u hj => by
  have := h.cell j
  rw [Addr.add_lit, Nat.zero_add, this]
  simpa using hj
theorem size_ext : (Tryz.prog.info? 77).map (·.size) = some 2 := by kernel_rfl
set_option maxRecDepth 100000 in
set_option maxHeartbeats 4000000 in
theorem insert_grow (g vb i : Nat) (l : List Ext) (x : Ext) (w : World) (ho : w.ownsRow 0 77 2 (.slice (some ⟨g, 0, none⟩) l.length l.length) l.length (flatE l)) (hv : Bk w vb 77 #[.string x.nm, .string x.dt]) (hl : l.length ≤ 1000000) (hi : i < l.length) :
    Calls Tryz.prog 152 #[.slice (some ⟨g, 0, none⟩) l.length l.length, .int .i64 i, .slice (some ⟨vb, 0, none⟩) 1 1] w fun e w' => (∃ A' c', e = .returned (.slice A' (l.length + 1) c') ∧ w'.ownsRow 0 77 2 (.slice A' (l.length + 1) c') (l.length + 1) (flatE (insE l i x)) ∧ ∀ k, (Value.slice A' (l.length + 1) c').ownBlock = some k → (Value.slice (some ⟨g, 0, none⟩) l.length l.length).ownBlock = some k ∨ w.heap.size ≤ k) ∧ w.grownBy w' (Value.slice (some ⟨g, 0, none⟩) l.length l.length).ownBlock := by
  obtain ⟨i0, hi0, hz0, hzs, hzb⟩ := info_parts info_ext
  have hrd := own_rdk ho
  have hgl : g < w.heap.size := own_lt ho g rfl
  have hold : (Builtin.firstCells i0.size i (.slice (some ⟨g, 0, none⟩) i l.length)).run Tryz.prog w.drew = .ok (flatE (l.take i)).toArray w.drew := by
    rw [hzs]
    exact run_firstCells_some w.drew 2 i ⟨g, 0, none⟩ i l.length (flatE (l.take i)) (by rw [flatE_length, List.length_take]; omega) (fun j v hj => by
      have hap : flatE l = flatE (l.take i) ++ flatE (l.drop i) := by rw [← flatE_app, List.take_append_drop]
      have hj2 : (flatE l)[j]? = some v := by rw [hap, List.getElem?_append_left (List.getElem?_eq_some_iff.1 hj).1]; exact hj
      exact rd_adds hrd j v hj2)
  obtain ⟨n, hn⟩ : ∃ n, n = l.length := ⟨_, rfl⟩
  have hrz : ∀ ty, (Builtin.append_ #[22, 3] ty #[.slice (some ⟨g, 0, none⟩) i n, .int .i64 ((n : Int) + 1 - (i : Int))]).run Tryz.prog w =
      .ok (.slice (some ⟨w.heap.size, 0, none⟩) (n + 1) (grownCap w (n + 1) n 77)) (w.drew.alloc (.cells ((flatE (l.take i)).toArray ++ Builtin.zeroCells (Value.agg #[.string ⟨#[]⟩, .string ⟨#[]⟩]).cells (n + 1 - i) ++ Builtin.zeroCells (Value.agg #[.string ⟨#[]⟩, .string ⟨#[]⟩]).cells (grownCap w (n + 1) n 77 - (n + 1))) 77)) := fun ty => by
    rw [← hn] at hold hi hl
    have h := Lib.run_append_grow_zeros w 22 3 ty 77 i0 _ .i64 .i64 Tryz.underlying22 Tryz.underlying3 hi0 hz0 (some ⟨g, 0, none⟩) i n (flatE (l.take i)) hold (n + 1 - i) (by omega) (by omega) (by omega) (by omega) (by rw [hzb]; omega) (by rw [hzb, show i + (n + 1 - i) = n + 1 by omega]; exact growslice_fits (by omega) (by omega))
    rw [show i + (n + 1 - i) = n + 1 by omega] at h
    rw [show (n : Int) + 1 - (i : Int) = ((n + 1 - i : Nat) : Int) by omega]
    exact h
  obtain ⟨G, hG⟩ : ∃ G, G = grownCap w (n + 1) n 77 := ⟨_, rfl⟩
  have hGn : n + 1 ≤ G := by rw [hG]; exact grownCap_ge w _ _ _
  have hGm : G ≤ maxLen := by rw [hG]; exact grownCap_le_maxLen w _ _ _ (by unfold maxLen; omega)
  obtain ⟨ROW, hROW⟩ : ∃ ROW : Array Value, ROW = (flatE (l.take i)).toArray ++ Builtin.zeroCells (Value.agg #[.string ⟨#[]⟩, .string ⟨#[]⟩]).cells (n + 1 - i) ++ Builtin.zeroCells (Value.agg #[.string ⟨#[]⟩, .string ⟨#[]⟩]).cells (G - (n + 1)) := ⟨_, rfl⟩
  rw [← hG, ← hROW] at hrz
  have hRs : ROW.size = G * 2 := by
    rw [hROW]
    simp only [Array.size_append, List.size_toArray, flatE_length, List.length_take, size_zeroCells]
    show min i l.length * 2 + (n + 1 - i) * 2 + (G - (n + 1)) * 2 = G * 2
    omega
  have hRt : ROW.toList.take (i * 2) = flatE (l.take i) := by
    rw [hROW]
    simp only [Array.toList_append, List.append_assoc]
    have : i * 2 = (flatE (l.take i)).length := by rw [flatE_length, List.length_take]; omega
    rw [this]
    exact List.take_left
  have hb1 : Below w.heap.size w (w.alloc (.cells ROW 77)).drew := (ba1 w _).drew
  have hk1 : Bk (w.alloc (.cells ROW 77)).drew w.heap.size 77 ROW := (Bk.new w _ _).drew
  have hv1 := hv.keep hb1
  have hvl := hv.lt
  have hrd1 := hrd.below hb1
  have hcI : n ≤ 9223372036854775807 := by omega
  have hGI : G ≤ 9223372036854775807 := by unfold maxLen at hGm; omega
  have e1 : ¬ (G = i) := by omega
  have e2 : ¬ (G = i + 1) := by omega
  have e3 : ¬ (n = i) := by omega
  have e4 : ¬ ((i : Int) = (n : Int)) := by omega
  have e5 : (n : Int) < (n : Int) + 1 := by omega
  have e6 : (i : Int) ≤ (n : Int) := by omega
  have hin : i < n := by omega
  have hn1 : n ≤ 1000000 := by omega
  have HO := hide ho
  have HRz := hide hrz
  have HK1 := hide hk1
  have HV1 := hide hv1
  have HRd1 := hide hrd1
  have HB1 := hide hb1
  have HRt := hide hRt
  have HRs := hide hRs
  have HN := hide hn
  have HGm := hide hGm
  rw [← hn]
  clear hrz hk1 hv1 hrd1 hb1 hRt hRs hG hROW hold hrd ho hv hGm hi hl hn
  go_enter Tryz.func152, Tryz.ntmps152
  go_upto_region 10 with (at_builtin; refine Lib.wpList_append_run _ rfl _ _ _ _ rfl _ _ rfl rfl _ _ (HRz.out _) ?_)
  go_upto_region 11 with (
    refine wpList_copy_k 2 rfl _ _ 22 22 rfl 77 Tryz.underlying22 size_ext w.heap.size (i * 2) (n + 1 - i) (G - i) ⟨vb, 0, none⟩ 1 1 1 rfl rfl ROW 77 HK1.out [.string x.nm, .string x.dt] ?_ ?_ ?_ ?_ ?_ ?_
    · simp only [Nat.min_def]; split <;> omega
    · rfl
    · exact cell_of HV1.out
    · rw [HRs.out]; simp; omega
    · intro u hu; simp at hu; rcases hu with rfl | rfl <;> rfl
    intro w2 hk2 hf2
    have HK2 := hide hk2
    have HF2 := hide hf2
    clear hk2 hf2)
  obtain ⟨C2, hC2⟩ : ∃ C2 : Array Value, C2 = (ROW.toList.take (i * 2) ++ ([Value.string x.nm, .string x.dt] ++ ROW.toList.drop (i * 2 + ([Value.string x.nm, .string x.dt]).length))).toArray := ⟨_, rfl⟩
  rw [← hC2] at HK2
  have hs2 : C2.size = G * 2 := by
    have := HRs.out
    rw [hC2]
    simp
    omega
  have ht2 : C2.toList.take (i * 2 + 2) = flatE (l.take i) ++ [Value.string x.nm, .string x.dt] := by
    rw [hC2, HRt.out, List.toList_toArray, ← List.append_assoc]
    have : i * 2 + 2 = (flatE (l.take i) ++ [Value.string x.nm, .string x.dt]).length := by
      have := HN.out
      rw [List.length_append, flatE_length, List.length_take]; simp; omega
    rw [this]
    exact List.take_left
  have hdl : (flatE (l.drop i)).length = (n - i) * 2 := by
    have := HN.out
    rw [flatE_length, List.length_drop, ← this]
  have hgl2 : ¬ g = w.heap.size := by omega
  have hsrc : ∀ j v, (flatE (l.drop i))[j]? = some v → w2.drew.cell? ((⟨g, i * 2, none⟩ : Addr).add j) = some v := fun j v hj => by
    have hap : flatE l = flatE (l.take i) ++ flatE (l.drop i) := by rw [← flatE_app, List.take_append_drop]
    have hlt : (flatE (l.take i)).length = i * 2 := by
      have := HN.out
      rw [flatE_length, List.length_take]; omega
    have hj2 : (flatE l)[i * 2 + j]? = some v := by rw [hap, List.getElem?_append_right (by omega), hlt, Nat.add_sub_cancel_left]; exact hj
    obtain ⟨b, o, e, hb, hc⟩ := HRd1.out _ _ hj2
    cases e
    rw [Addr.add_lit]
    rw [Nat.zero_add] at hc
    exact HF2.out.cell (p := ⟨g, i * 2 + j, none⟩) hgl2 hc
  have HSrc := hide hsrc
  have HDl := hide hdl
  have HS2 := hide hs2
  have HT2 := hide ht2
  have e7 : IntKind.i64.wrap ((i : Int) + 1) = (i : Int) + 1 := IntWalk.i64_in _ ⟨by omega, by omega⟩
  have e10 : (0 : Int) ≤ (i : Int) + 1 := by omega
  have e11 : ((i : Int) + 1).toNat = i + 1 := by omega
  have e8 : i + 1 ≤ n + 1 := by omega
  have e9 : i ≤ n := by omega
  clear hsrc hdl hs2 ht2 hC2
  go_region_law (
    refine step_copy_k 2 rfl (.tmp 50) (.tmp 53) 22 22 rfl 77 Tryz.underlying22 size_ext w.heap.size ((i + 1) * 2) (n + 1 - (i + 1)) (G - (i + 1)) ⟨g, i * 2, none⟩ (n - i) (n - i) (n - i) ?_ ?_ C2 77 HK2.out.drew (flatE (l.drop i)) ?_ HDl.out HSrc.out ?_ flatE_one ?_
    · simp [Act.eval, Act.put]
    · simp [Act.eval, Act.put]
    · simp only [Nat.min_def]; split <;> omega
    · rw [HDl.out, HS2.out]; omega
    intro w3 hk3 hf3
    have HK3 := hide hk3
    have HF3 := hide hf3
    clear hk3 hf3)
  all_goals
    go_wp2_with fail
    go_ret
    have hbw : Below w.heap.size w w3 := (HB1.out.trans (Fr.toBelowB (S := fun k => k = w.heap.size) HF2.out (fun g hg => Nat.le_of_eq (Eq.symm hg)) (by simp))).drew.trans (Fr.toBelowB (S := fun k => k = w.heap.size) HF3.out (fun g hg => Nat.le_of_eq (Eq.symm hg)) (by have := HF2.out.size; simp at this; show w.heap.size ≤ w2.heap.size; omega))
    refine ⟨⟨some ⟨w.heap.size, 0, none⟩, G, rfl, ?_, fun k hk => .inr (by simp [Value.ownBlock] at hk; omega)⟩, ⟨hbw.os, hbw.tape, hbw.output, hbw.size, fun k hk _ => hbw.block k hk⟩⟩
    have hnl := HN.out
    have ht2 := HT2.out
    have hs2 := HS2.out
    rw [show i * 2 + 2 = (i + 1) * 2 by omega] at ht2
    have hfl : flatE (insE l i x) = flatE (l.take i) ++ [Value.string x.nm, .string x.dt] ++ flatE (l.drop i) := by
      unfold insE
      rw [flatE_app, List.append_assoc]; rfl
    refine ⟨by rw [hfl, List.length_append, List.length_append, HDl.out, flatE_length, List.length_take]; simp; omega, .inr ⟨w.heap.size, G, _, rfl, Nat.zero_le _, HK3.out, hGn, HGm.out, ?_, ?_⟩⟩
    · simp only [List.size_toArray, List.length_append, List.length_take, List.length_drop, HDl.out, Array.length_toList, hs2]
      omega
    · rw [List.toList_toArray, ht2, hfl, ← List.append_assoc]
      have : (n + 1) * 2 = (flatE (l.take i) ++ [Value.string x.nm, .string x.dt] ++ flatE (l.drop i)).length := by
        rw [List.length_append, List.length_append, HDl.out, flatE_length, List.length_take]; simp; omega
      rw [this]
      exact List.take_left
end Go.Proofs.YtmopegpkoedgbaaGreatDoor
