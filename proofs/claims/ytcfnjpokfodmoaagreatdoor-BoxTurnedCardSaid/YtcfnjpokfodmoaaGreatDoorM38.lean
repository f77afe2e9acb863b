/- Lemmas for the row: Turned. -/
import Derived.Test.YtcfnjpokfodmoaaGreatDoorM37
import Derived.Lib.ConvBytes
import Derived.Lib.SmallJoins
set_option linter.unusedVariables false
/- Walk: the law BoxTurned. -/
namespace Go.Proofs.YtcfnjpokfodmoaaGreatDoor
open Go.RowKit

/-- A text as new bytes. -/
theorem bytes_new (w : World) (s : ByteArray) : (∀ j, j < s.size → (Lib.bytesWorld w 5 s).cell? ⟨w.heap.size, j, none⟩ = some (.int .u8 (byt s j : Nat))) ∧ (∀ j, j < s.size → (Lib.bytesWorld w 5 s).frozen? ⟨w.heap.size, j, none⟩ = false) ∧ Below w.heap.size w (Lib.bytesWorld w 5 s) ∧ (Lib.bytesWorld w 5 s).heap.size = w.heap.size + 1 := by
  refine ⟨fun j hj => ?_, fun j hj => ?_, Joins.below_bytesWorld _ _ _ _ (Nat.le_refl _), Lib.bytesWorld_size _ _ _⟩
  · rw [Lib.bytesWorld_cell w 5 s j hj]
    congr 3
    have h1 := strL_get hj
    rw [strL_map, List.getElem?_map] at h1
    rw [List.getD_eq_getElem?_getD]
    cases hx : s.data.toList[j]? with
    | none => rw [hx] at h1; cases h1
    | some x => rw [hx] at h1; exact Option.some.inj h1
  · have h := Lib.bytesWorld_at_new w 5 s
    have hsz : s.size ≤ (Lib.bytesCells w 5 s).size := by simp [Lib.bytesCells]
    simp [World.frozen?, h]
    omega
theorem rd_turned {w : World} {g k v : Nat} {s : ByteArray} (hc : ∀ j, j < s.size → w.cell? ⟨g, j, none⟩ = some (.int .u8 (byt s j : Nat))) (hk : k < s.size) (hg : g < w.heap.size) : Rd (w.setCell ⟨g, k, none⟩ (.int .u8 v)) (g + 1) (some ⟨g, 0, none⟩) (vby ((strL s).set k v)) := by
  intro i u hu
  refine ⟨g, 0, rfl, by omega, ?_⟩
  rw [Nat.zero_add]
  unfold vby at hu
  rw [List.getElem?_map] at hu
  have hi : i < s.size := by
    cases hx : ((strL s).set k v)[i]? with
    | none => rw [hx] at hu; cases hu
    | some x => have := (List.getElem?_eq_some_iff.1 hx).1; rw [List.length_set, strL_length] at this; exact this
  by_cases h : i = k
  · subst h
    rw [List.getElem?_set_self (by rw [strL_length]; exact hi)] at hu
    cases hu
    rw [World.cell?_setCell_same _ _ _ (by rw [hc i hi])]
  · rw [List.getElem?_set_ne (fun e => h e.symm), strL_get hi] at hu
    cases hu
    rw [World.cell?_setCell_other _ _ _ _ (fun e => h (by cases e; rfl))]
    exact hc i hi
/-- What is opened of a container with one byte another. -/
theorem turned_open {t O : List Nat} (ht : ∀ x ∈ t, x < 256) (hl : t.length ≤ 4096) (h : Built t O) (hO : O.length ≤ 30000) (hOb : ∀ x ∈ O, x < 256) {k v : Nat} (hk : k < O.length) (hv : v < 256) (hne : v ≠ O.getD k 0) :
    ∃ z : Int, (z = if k < 4 then 2 else 6) ∧ headW (O.set k v) = z ∧ openR (O.set k v) = (z, []) := by
  obtain ⟨_, hw, _⟩ := built_facts ht hl h hO hOb
  have hsb := seal_back hOb hw
  have hb : ∀ x ∈ (O.drop 28).take (O.length - 32), x < 256 := fun x hx => hOb x (List.mem_of_mem_drop (List.mem_of_mem_take hx))
  have hm := head_turned (h := fieldsL O) (b := (O.drop 28).take (O.length - 32)) (k := k) (v := v) hb (by rw [List.length_take]; omega) (by rw [← hsb]; exact hk) hv (by rw [← hsb]; exact hne)
  rw [← hsb] at hm
  have hz : headW (O.set k v) ≠ 0 := by rw [hm]; split <;> decide
  refine ⟨_, rfl, hm, ?_⟩
  unfold openR
  rw [if_pos (by rw [partsW_head hz]; exact hz), partsW_head hz, hm]
theorem xor_ne {a b : Nat} (h : b ≠ 0) : a ^^^ b ≠ a := by
  intro e
  have : a ^^^ b = a ^^^ 0 := by rw [e, Nat.xor_zero]
  exact h (xor_left this)
set_option maxHeartbeats 8000000 in
set_option maxRecDepth 100000 in
theorem turned_any (s : ByteArray) (a y : Int) (q0 q1 : Addr) (w : World) (hs64 : s.size ≤ 9223372036854775807) (ha : I64 a) (hy0 : 0 ≤ y) (hy1 : y < 256) (hS : Sent2 w q0 q1) (hT : ErrT w) :
    Calls Tryz.prog 5 #[.string s, .int .i64 a, .int .u8 y] w fun e w' => e = .returned (.bool true) ∧ Below w.heap.size w w' := by
  have li := lives24 q0 q1 w hS hT
  have HLi := hide li
  obtain ⟨ha1, ha2⟩ := ha
  clear li
  by_cases hs : 700 < s.size
  · have d0 : (700 : Int) < (s.size : Int) := by omega
    clear hS hT
    go_enter Tryz.func5, Tryz.ntmps5
    go_wp2_with (go_at_call 11; refine (Calls.mono HLi.out ?_); rintro e w1 ⟨rfl, hb1⟩; have HB1 := hide hb1; clear hb1)
    go_ret
    exact ⟨rfl, HB1.out⟩
  · have d0 : ¬ (700 : Int) < (s.size : Int) := by omega
    have bu := fun (W : World) => build_any s W (by omega)
    have HBu := hide bu
    have bo := fun (O : ByteArray) (W : World) (hW : Below w.heap.size w W) (h64 : O.size ≤ 1000000) => bopenN_any O q0 q1 W (hS.below hW (Nat.le_refl _)) (hT.keep hW) h64
    have bh := fun (O : ByteArray) (W : World) (hW : Below w.heap.size w W) (h64 : O.size ≤ 1000000) => headN_any O W h64 (hT.keep hW)
    have HBo := hide bo
    have HBh := hide bh
    have hsl : (strL s).length ≤ 4096 := by rw [strL_length]; omega
    clear bu bo bh hS hT
    go_enter Tryz.func5, Tryz.ntmps5
    go_upto_region 6 with (first
      | (go_at_call 12; refine (Calls.mono (HBu.out w1) ?_); rintro e w2 ⟨⟨O, rfl, hbt, hOl, hOb⟩, hb2⟩; have HBt := hide hbt; have HOl := hide hOl; have HOb := hide hOb; have HBe := hide (HB1.out.trans (hb2.mono HB1.out.size)); clear hbt hOl hOb hb2 HB1)
      | (go_at_call 11; refine (Calls.mono HLi.out ?_); rintro e w1 ⟨rfl, hb1⟩; have HB1 := hide hb1; clear hb1))
    have hOs : (strOf O).size = O.length := strOf_size O
    have hst : strL (strOf O) = O := strL_of HOb.out
    obtain ⟨S, hS⟩ : ∃ S, S = strOf O := ⟨_, rfl⟩
    rw [← hS] at hOs hst ⊢
    have hO1 := HOl.out
    by_cases g1 : a < 0
    · have HOs := hide hOs
      clear hOs hO1 hst hS HBt HOl HOb
      go_wp2_with fail
      go_ret
      exact ⟨rfl, HBe.out⟩
    · by_cases g2 : (S.size : Int) ≤ a
      · have HOs := hide hOs
        clear hOs hO1 hst hS HBt HOl HOb
        go_wp2_with fail
        go_ret
        exact ⟨rfl, HBe.out⟩
      · by_cases g3 : y = 0
        · have HOs := hide hOs
          subst g3
          clear hOs hO1 hst hS HBt HOl HOb
          go_wp2_with fail
          go_ret
          exact ⟨rfl, HBe.out⟩
        · obtain ⟨k, rfl⟩ : ∃ k : Nat, a = k := ⟨a.toNat, by omega⟩
          obtain ⟨x, rfl⟩ : ∃ x : Nat, y = x := ⟨y.toNat, by omega⟩
          have hk : k < S.size := by omega
          obtain ⟨c, hc⟩ : ∃ c, c = byt S k := ⟨_, rfl⟩
          have hc256 : c < 256 := by rw [hc]; exact byt_lt S k
          have hx256 : x < 256 := by omega
          have hxor := u8_xor_nat c x hc256 hx256
          have hgc : O.getD k 0 = c := by
            rw [← hst, List.getD_eq_getElem?_getD, strL_get hk, hc]; rfl
          obtain ⟨v, hv⟩ : ∃ v, v = c ^^^ x := ⟨_, rfl⟩
          have hv256 : v < 256 := by rw [hv]; exact Nat.xor_lt_two_pow (n := 8) hc256 hx256
          have hvc : v ≠ O.getD k 0 := by rw [hgc, hv]; exact xor_ne (by omega)
          rw [← hv] at hxor
          obtain ⟨z, hz, hw, ho⟩ := turned_open (strL_lt s) hsl HBt.out HOl.out HOb.out (k := k) (v := v) (by omega) hv256 hvc
          obtain ⟨T, hT⟩ : ∃ T, T = strOf (O.set k v) := ⟨_, rfl⟩
          have hTb : ∀ q ∈ O.set k v, q < 256 := by
            intro q hq
            rcases List.mem_or_eq_of_mem_set hq with h | h
            · exact HOb.out q h
            · rw [h]; exact hv256
          have hTl : strL T = O.set k v := by rw [hT]; exact strL_of hTb
          have hTs : T.size = S.size := by rw [hT, strOf_size, List.length_set, hOs]
          have op := fun (W : World) (hW : Below w.heap.size w W) => HBo.out T W hW (by omega)
          have hd := fun (W : World) (hW : Below w.heap.size w W) => HBh.out T W hW (by omega)
          rw [hTl, ho] at op
          rw [hTl, hw] at hd
          have op2 : ∀ (W : World), Below w.heap.size w W → Calls Tryz.prog 16 #[.string T] W fun e w' => e = .returned (.tuple #[.string ⟨#[]⟩, .int .i64 z]) ∧ Below W.heap.size W w' := fun W hW => op W hW
          have hzh : headH (O.set k v) = zeroH := by unfold headH; rw [if_neg (by rw [hw, hz]; split <;> decide)]
          rw [hzh] at hd
          have hd2 : ∀ (W : World), Below w.heap.size w W → Calls Tryz.prog 17 #[.string T] W fun e w' => e = .returned (.tuple #[.agg #[.int .u64 0, .int .u64 0, .int .u32 0, .int .u64 0, .int .u64 0], .int .i64 z]) ∧ Below W.heap.size W w' := fun W hW => hd W hW
          have hcv : ∀ W : World, (convert 9 38 (.string S)).run Tryz.prog W = .ok (.slice (some ⟨W.heap.size, 0, none⟩) S.size (grownCap W S.size 0 5)) (Lib.bytesWorld W 5 S) := fun W => Lib.run_convert_string_bytes W 9 38 5 S Tryz.underlying9 Tryz.underlying38 Tryz.underlying5
          obtain ⟨n1, n2, n3, n4⟩ := bytes_new w2 S
          have ncell := (n1 k hk)
          rw [← hc] at ncell
          have nfree := n2 k hk
          obtain ⟨W3, hW3⟩ : ∃ W, W = Lib.bytesWorld w2 5 S := ⟨_, rfl⟩
          obtain ⟨C, hC⟩ : ∃ C, C = grownCap w2 S.size 0 5 := ⟨_, rfl⟩
          have hcv3 := hcv w2
          rw [← hW3, ← hC] at hcv3
          rw [← hW3] at n1 n2 n3 n4 ncell nfree
          obtain ⟨g, hg⟩ : ∃ g, g = w2.heap.size := ⟨_, rfl⟩
          rw [← hg] at n1 n2 n4 ncell nfree hcv3
          have hrd := rd_turned (v := v) n1 hk (by omega)
          have hlen : ((strL S).set k v).length = S.size := by rw [List.length_set, strL_length]
          have hcvT := run_conv Tryz.prog (W3.setCell ⟨g, k, none⟩ (.int .u8 v)) 38 5 Tryz.underlying38 Tryz.underlying5 9 Tryz.underlying9 hrd C
          rw [hlen, hst, ← hT] at hcvT
          have hbe4 : Below w.heap.size w (W3.setCell ⟨g, k, none⟩ (.int .u8 v)) := (HBe.out.trans (n3.mono HBe.out.size)).setCell (p := ⟨g, k, none⟩) (by show w.heap.size ≤ g; have := HBe.out.size; omega) _
          have hrd2 : ∀ W5, Below (W3.setCell ⟨g, k, none⟩ (.int .u8 v)).heap.size (W3.setCell ⟨g, k, none⟩ (.int .u8 v)) W5 → (convert 38 9 (.slice (some ⟨g, 0, none⟩) S.size C)).run Tryz.prog W5 = .ok (.string T) W5 := fun W5 hb => by
            have := run_conv Tryz.prog W5 38 5 Tryz.underlying38 Tryz.underlying5 9 Tryz.underlying9 ((hrd.more (by simp [World.setCell]; omega)).below hb) C
            rw [hlen, hst, ← hT] at this
            exact this
          have hkI : (k : Int) < (S.size : Int) := by omega
          have HOp := hide op2
          have HHd := hide hd2
          have HBe4 := hide hbe4
          have HRd := hide hrd2
          have HZ := hide hz
          clear op hd op2 hd2 hbe4 hrd2 hcv n1 n2 n3 n4 hrd hlen hW3 hC hT hTb hTl hTs hst hS hOs hO1 hgc hvc hv ho hw hz hzh HBt HOl HOb HBo HBh HBu HLi hc hg
          by_cases g4 : k < 4
          · have hz := HZ.out
            rw [if_pos g4] at hz
            subst hz
            have g4' : (k : Int) < 4 := by omega
            go_wp2_with (first
              | (go_at_call 17; refine (Calls.mono (HHd.out w5 HBe5.out) ?_); rintro e w6 ⟨rfl, hb6⟩; have HBe6 := hide (HBe5.out.trans (hb6.mono HBe5.out.size)); clear hb6)
              | (go_at_call 16; refine (Calls.mono (HOp.out _ HBe4.out) ?_); rintro e w5 ⟨rfl, hb5⟩; have hcv5 := HRd.out w5 hb5; have HBe5 := hide (HBe4.out.trans (hb5.mono HBe4.out.size)); clear hb5))
            go_ret
            exact ⟨rfl, HBe6.out.alloc HBe6.out.size _⟩
          · have hz := HZ.out
            rw [if_neg g4] at hz
            subst hz
            have g4' : ¬ (k : Int) < 4 := by omega
            have g4'' : (4 : Int) ≤ (k : Int) := by omega
            go_wp2_with (first
              | (go_at_call 17; refine (Calls.mono (HHd.out w5 HBe5.out) ?_); rintro e w6 ⟨rfl, hb6⟩; have HBe6 := hide (HBe5.out.trans (hb6.mono HBe5.out.size)); clear hb6)
              | (go_at_call 16; refine (Calls.mono (HOp.out _ HBe4.out) ?_); rintro e w5 ⟨rfl, hb5⟩; have hcv5 := HRd.out w5 hb5; have HBe5 := hide (HBe4.out.trans (hb5.mono HBe4.out.size)); clear hb5))
            go_ret
            exact ⟨rfl, HBe6.out.alloc HBe6.out.size _⟩
end Go.Proofs.YtcfnjpokfodmoaaGreatDoor
