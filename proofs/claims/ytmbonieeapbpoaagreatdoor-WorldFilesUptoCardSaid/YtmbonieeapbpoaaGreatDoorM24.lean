/- Lemmas for the row: FsA. -/
import Derived.Test.YtmbonieeapbpoaaGreatDoorM21
import Derived.Deep.RegionHeld3
import Derived.Maps.OwnOps
import Derived.Maps.Views
import Derived.Shelf.Strings.SlTrimAscii
set_option linter.unusedVariables false
set_option linter.unusedSimpArgs false
/- Walk: front.step. -/
namespace Go.Proofs.YtmbonieeapbpoaaGreatDoor
open Go.RowKit

theorem Bk.other {w : World} {g gx : Nat} {t : TypeId} {cs : Array Value} (h : Bk w g t cs) (hne : g ≠ gx) (i : Nat) (u : Value) : Bk (w.setCell ⟨gx, i, none⟩ u) g t cs :=
  h.fr ((Fr.refl (fun k => k = gx) w).setCell (p := ⟨gx, i, none⟩) (.inl rfl) u) hne
/-- Six cells of a step are stored. -/
def put6 (w : World) (g : Nat) (a0 a1 a2 a3 a4 a5 : Value) : World := (((((w.setCell ⟨g, 0, none⟩ a0).setCell ⟨g, 1, none⟩ a1).setCell ⟨g, 2, none⟩ a2).setCell ⟨g, 3, none⟩ a3).setCell ⟨g, 4, none⟩ a4).setCell ⟨g, 5, none⟩ a5
theorem put6_bk {w : World} {g : Nat} {t : TypeId} {z0 z1 z2 z3 z4 z5 : Value} (h : Bk w g t #[z0, z1, z2, z3, z4, z5]) (a0 a1 a2 a3 a4 a5 : Value) : Bk (put6 w g a0 a1 a2 a3 a4 a5) g t #[a0, a1, a2, a3, a4, a5] :=
  (((((h.set_ 0 a0).set_ 1 a1).set_ 2 a2).set_ 3 a3).set_ 4 a4).set_ 5 a5
theorem put6_below {B : Nat} {w : World} {g : Nat} {W : World} (h : Below B W w) (hg : B ≤ g) (a0 a1 a2 a3 a4 a5 : Value) : Below B W (put6 w g a0 a1 a2 a3 a4 a5) :=
  (((((h.setCell (p := ⟨g, 0, none⟩) hg a0).setCell (p := ⟨g, 1, none⟩) hg a1).setCell (p := ⟨g, 2, none⟩) hg a2).setCell (p := ⟨g, 3, none⟩) hg a3).setCell (p := ⟨g, 4, none⟩) hg a4).setCell (p := ⟨g, 5, none⟩) hg a5
theorem own_put6 {w : World} {g base e size n : Nat} {v : Value} {xs : List Value} (h : w.ownsRow base e size v n xs) (hg : v.ownBlock ≠ some g) (a0 a1 a2 a3 a4 a5 : Value) : (put6 w g a0 a1 a2 a3 a4 a5).ownsRow base e size v n xs :=
  own_set (own_set (own_set (own_set (own_set (own_set h (p := ⟨g, 0, none⟩) hg a0) (p := ⟨g, 1, none⟩) hg a1) (p := ⟨g, 2, none⟩) hg a2) (p := ⟨g, 3, none⟩) hg a3) (p := ⟨g, 4, none⟩) hg a4) (p := ⟨g, 5, none⟩) hg a5
theorem own_drew {w : World} {base e size n : Nat} {v : Value} {xs : List Value} (h : w.ownsRow base e size v n xs) : w.drew.ownsRow base e size v n xs := h
end Go.Proofs.YtmbonieeapbpoaaGreatDoor
