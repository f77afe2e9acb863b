/- The tie of the rows. -/
import Derived.Test.YtmbonieeapbpoaaGreatDoorTieWB
import Derived.Test.YtmbonieeapbpoaaGreatDoorTieWC
import Derived.Test.YtmbonieeapbpoaaGreatDoorTieWD
import Derived.Test.YtmbonieeapbpoaaGreatDoorTieWE
import Derived.Test.YtmbonieeapbpoaaGreatDoorTieWF
import Derived.Test.YtmbonieeapbpoaaGreatDoorTieWG
namespace Go.Proofs.YtmbonieeapbpoaaGreatDoor
open Go
theorem tie : Tryz.prog.laidByTextLater laidT kindsT true := Program.laidByTextLater_by_run_h 400 8 tie1 tie2 tie3 tie4 tie5 tie6 tie7 tie8 tie9 tie10
theorem worldTellsUpto_row_tie : Rows.worldTellsUptoRow.laidByTextAt .later Tryz.pinned [.pinned, .data, .handle, .sentinel, .sentinel, .sentinel, .sentinel] true :=
  OpenClaim.laidByTextAt_pinned rfl rfl tie rfl rfl rfl rfl (fun y hy _e => by
    simp only [Rows.worldTellsUptoRow, List.zip_cons_cons, List.zip_nil_right, List.mem_cons, List.mem_nil_iff, or_false] at hy
    rcases hy with rfl | rfl | rfl | rfl | rfl | rfl | rfl
    · exact ⟨pin_laid_unicode_utf8_first, by kernel_rfl⟩
    · cases _e
    · cases _e
    · cases _e
    · cases _e
    · cases _e
    · cases _e) fits1
theorem worldFilesUpto_row_tie : Rows.worldFilesUptoRow.laidByTextAt .later Tryz.pinned [.pinned, .data, .handle, .sentinel, .sentinel, .sentinel, .sentinel] true :=
  OpenClaim.laidByTextAt_pinned rfl rfl tie rfl rfl rfl rfl (fun y hy _e => by
    simp only [Rows.worldFilesUptoRow, List.zip_cons_cons, List.zip_nil_right, List.mem_cons, List.mem_nil_iff, or_false] at hy
    rcases hy with rfl | rfl | rfl | rfl | rfl | rfl | rfl
    · exact ⟨pin_laid_unicode_utf8_first, by kernel_rfl⟩
    · cases _e
    · cases _e
    · cases _e
    · cases _e
    · cases _e
    · cases _e) fits1
end Go.Proofs.YtmbonieeapbpoaaGreatDoor
