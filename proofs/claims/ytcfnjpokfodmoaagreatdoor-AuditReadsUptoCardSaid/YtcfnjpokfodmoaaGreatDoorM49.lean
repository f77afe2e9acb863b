/- Lemmas for the row: LawHead. -/
import Derived.Test.YtcfnjpokfodmoaaGreatDoorM34
import Derived.Test.YtcfnjpokfodmoaaGreatDoorM48
import Derived.Deep.DeepHandedRow
import Derived.Deep.DeepWitnessRowRef
set_option maxRecDepth 100000
set_option linter.unusedVariables false
namespace Go.Proofs.YtcfnjpokfodmoaaGreatDoor
open Go.ChangeShapes Go.WideShapes Go.ChangeAt Go.RowKit Go.Joins Go.Deep
section
variable {H:Type}
theorem bulk_part {d:DataW H} {l:List (DataW H)} (h:d ∈ l):Rows.uptoBulk d ≤ Rows.uptoBulkAll l:=by
 induction l with
 | nil => cases h
 | cons x r ih =>
   rw [Rows.uptoBulkAll]
   rcases List.mem_cons.1 h with rfl | h
   · omega
   · have:=ih h;omega
theorem bulk_str {s:ByteArray} {l:List (DataW H)} (hk:Rows.uptoSmall H l = true) (h:DataW.lit (.string s.data.toList) ∈ l):s.size ≤ 1048576:=by
 have h1:Rows.uptoBulkAll l ≤ 1048576:=of_decide_eq_true hk
 have h2:=bulk_part h
 rw [Rows.uptoBulk] at h2
 have h3:s.data.toList.length = s.size:=by rw [Array.length_toList];rfl
 omega
end
end Go.Proofs.YtcfnjpokfodmoaaGreatDoor
