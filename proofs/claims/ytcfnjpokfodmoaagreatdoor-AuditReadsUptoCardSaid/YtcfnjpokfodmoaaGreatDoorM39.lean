/- Lemmas for the row: FmtU. -/
import Derived.Test.YtcfnjpokfodmoaaGreatDoorM03
import Derived.Test.YtcfnjpokfodmoaaGreatDoorShelf2
import Derived.Lib.ItoaMem
set_option maxRecDepth 100000
set_option linter.unusedVariables false
namespace Go.Proofs.YtcfnjpokfodmoaaGreatDoor
open Go.RowKit Go.Sort
theorem tab_below {w w':World} {name:String} {k:IntKind} {zs:List Int} (h:Lib.TabIs Tryz.prog w name k zs) (hb:Below w.heap.size w w'):Lib.TabIs Tryz.prog w' name k zs:=by
 unfold Lib.TabIs World.var? at *
 cases hg:Tryz.prog.globalNamed name with
 | none => simp [hg] at h
 | some g =>
   simp only [hg,Option.bind_some] at h ⊢
   have hlt:g < w.heap.size:=by
    rcases Nat.lt_or_ge g w.heap.size with h' | h'
    · exact h'
    · rw [Array.getElem?_eq_none h'] at h;simp at h
   rw [hb.block g hlt]
   exact h
def Pow10 (w:World):Prop:=Lib.TabIs Tryz.prog w "internal/strconv.uint64pow10" .u64 Lib.pow10Tab
theorem Pow10.below {w w':World} (h:Pow10 w) (hb:Below w.heap.size w w'):Pow10 w':=tab_below h hb
theorem dec_dig:∀ (f:Nat) {n:Nat},n ≤ f → Lib.decDigits n = (digL n).map UInt8.ofNat:=by
 intro f
 induction f with
 | zero =>
   intro n h
   obtain rfl:n = 0:=by omega
   rw [Lib.decDigits,digL_eq];rfl
 | succ f ih =>
   intro n h
   rw [Lib.decDigits,digL_eq]
   by_cases h10:n < 10
   · rw [dif_pos h10,if_pos h10]
     have:n % 10 = n:=Nat.mod_eq_of_lt h10
     rw [this];rfl
   · rw [dif_neg h10,if_neg h10,ih (n:=n / 10) (by omega),List.map_append];rfl
theorem dec_str (n:Nat):(⟨(Lib.decDigits n).toArray⟩:ByteArray) = strOf (digL n):=by rw [dec_dig n (Nat.le_refl n)];rfl
theorem holds_zero0 (w:World) (T:TypeId) (nd:Nat) (hs:nd ≤ 24):Holds (fun (b:UInt8) => Value.int .u8 (b.toNat:Int)) (w.alloc (.cells Lib.zeros24 T)) w.heap.size 0 (Array.replicate nd (0:UInt8)):=fun j hj => by
 have hj':j < nd:=by simpa using hj
 rw [World.cell?_alloc_new]
 rw [Nat.zero_add,Lib.zeros24_at j (by omega)]
 simp [hj']
theorem put_row_below (w:World) (T:TypeId) (dk:Array UInt8) (k:Nat):Below w.heap.size w ((putRow (fun (b:UInt8) => Value.int .u8 (b.toNat:Int)) (w.alloc (.cells Lib.zeros24 T)) w.heap.size 0 dk).drewN k):=by
 refine Below.trans ((Below.refl _ w).alloc (Nat.le_refl _) _) ((⟨rfl,rfl,rfl,by simp,fun i hi => ?_⟩:Below w.heap.size (w.alloc (.cells Lib.zeros24 T)) (putRow (fun (b:UInt8) => Value.int .u8 (b.toNat:Int)) (w.alloc (.cells Lib.zeros24 T)) w.heap.size 0 dk)).trans (below_drewN (Below.refl _ _) k))
 show ((w.alloc (.cells Lib.zeros24 T)).heap.modify w.heap.size _)[i]? = _
 rw [Array.getElem?_modify,if_neg (by omega)]
set_option maxHeartbeats 2000000 in
theorem fmtU_in (u:Nat) (hu64:u < 18446744073709551616) (w:World) (htab:Pow10 w):Calls Tryz.prog 144 #[.int .u64 u,.int .i64 10] w fun e w' => e = .returned (.string (strOf (digL u))) ∧ Below w.heap.size w w':=by
 by_cases hs:u < 100
 · have d1:(u:Int) < 100:=by omega
   go_enter Tryz.func144,Tryz.ntmps144
   go_wp2_with (go_at_call 206;refine (Tryz.internal_strconv_small u hs _).mono ?_;rintro e w' ⟨rfl,rfl⟩)
   go_ret
   exact ⟨by rw [← dec_str];rfl,Below.refl _ _⟩
 · have d1:¬ (u:Int) < 100:=by omega
   have hu1:1 ≤ u:=by omega
   have hnd20:Lib.nDigits u ≤ 20:=by have:=Lib.numDigits_eq u hu1 hu64;split at this <;> omega
   have hal:Tryz.prog.arrayLen 289 = 24:=by kernel_rfl
   have hsl1:∀ W,(Instr.sliceAt 289 (.pointer (some ⟨w.heap.size,0,none⟩)) none (some (.int .i64 (Lib.nDigits u:Int))) none).run Tryz.prog W = .ok (.slice (some ⟨w.heap.size,0,none⟩) (Lib.nDigits u) 24) W:=fun W => by
    rw [run_sliceAt_array_h W 289 ⟨w.heap.size,0,none⟩ (by simp [Program.arrayLen,Program.elem,Tryz.underlying289]) .i64 (Lib.nDigits u:Int) (by omega) (by rw [hal];omega)]
    go_simp
   have hH0:=holds_zero0 w 289 (Lib.nDigits u) (by omega)
   have hfmt:=Tryz.internal_strconv_formatBase10 w.heap.size 0 24 u (Array.replicate (Lib.nDigits u) 0) (w.alloc (.cells Lib.zeros24 289)) hH0 (by rw [Array.size_replicate];exact Lib.lt_pow_nDigits u) hu64 (by rw [Array.size_replicate];omega)
   rw [Array.size_replicate] at hfmt
   have HH0:=hide hH0
   clear hH0 hal
   go_enter Tryz.func144,Tryz.ntmps144
   go_wp2_with (go_at_call 207;refine (Tryz.internal_strconv_numDigits u hu1 hu64 _ (Lib.tabIs_alloc htab _)).mono ?_;rintro e w' ⟨rfl,rfl⟩)
   go_at_call 208
   refine hfmt.mono ?_
   rintro e w' ⟨rfl,k,v',dk,rfl,hF⟩
   have hcv:(convert 38 9 (.slice (some ⟨w.heap.size,0,none⟩) (Lib.nDigits u) 24)).run Tryz.prog ((putRow (fun (b:UInt8) => Value.int .u8 (b.toNat:Int)) (w.alloc (.cells Lib.zeros24 289)) w.heap.size 0 dk).drewN k) = .ok (.string ⟨(Lib.decDigits u).toArray⟩) ((putRow (fun (b:UInt8) => Value.int .u8 (b.toNat:Int)) (w.alloc (.cells Lib.zeros24 289)) w.heap.size 0 dk).drewN k):=by
    have h:=run_convert_bytes_back (P:=Tryz.prog) ((putRow (fun (b:UInt8) => Value.int .u8 (b.toNat:Int)) (w.alloc (.cells Lib.zeros24 289)) w.heap.size 0 dk).drewN k) 38 9 5 ⟨w.heap.size,0,none⟩ 24 (Lib.decDigits u) Tryz.underlying38 Tryz.underlying5 Tryz.underlying9 (fun j hj => by
     rw [Lib.row_is_numeral hF j hj,Lib.add_plain,World.cell?_drewN]
     exact cell?_putRow (fun (b:UInt8) => Value.int .u8 (b.toNat:Int)) _ w.heap.size 0 _ dk HH0.out (by rw [hF.size,Array.size_replicate]) j (by rw [hF.size];rw [Lib.decDigits_length] at hj;exact hj))
    rw [Lib.decDigits_length] at h
    exact h
   go_wp2
   go_ret
   exact ⟨by rw [← dec_str];rfl,put_row_below w _ dk k⟩
theorem fmtU_any (u:Nat) (hu64:u < 18446744073709551616) (w:World) (htab:Pow10 w):Calls Tryz.prog 100 #[.int .u64 u,.int .i64 10] w fun e w' => e = .returned (.string (strOf (digL u))) ∧ Below w.heap.size w w':=by
 go_enter Tryz.func100,Tryz.ntmps100
 go_wp2_with (go_at_call 144;refine (fmtU_in u hu64 w htab).mono ?_;rintro e w' ⟨rfl,hb⟩)
 go_ret
 exact ⟨rfl,hb⟩
end Go.Proofs.YtcfnjpokfodmoaaGreatDoor
