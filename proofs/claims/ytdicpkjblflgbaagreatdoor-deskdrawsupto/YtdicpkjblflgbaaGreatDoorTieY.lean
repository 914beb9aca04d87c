/-
  The row's tie, out of its facts. Conditions: those that each statement below names, and no other.
-/
import Derived.Test.YtdicpkjblflgbaaGreatDoorTieA
import Derived.Test.YtdicpkjblflgbaaGreatDoorTieB
import Derived.Test.YtdicpkjblflgbaaGreatDoorTieC
import Derived.Test.YtdicpkjblflgbaaGreatDoorTieD
import Derived.Test.YtdicpkjblflgbaaGreatDoorTieE
import Derived.Test.YtdicpkjblflgbaaGreatDoorTieF
import Derived.Test.YtdicpkjblflgbaaGreatDoorTieG
import Derived.Test.YtdicpkjblflgbaaGreatDoorTieH
import Derived.Test.YtdicpkjblflgbaaGreatDoorTieI
import Derived.Test.YtdicpkjblflgbaaGreatDoorTieJ
import Derived.Test.YtdicpkjblflgbaaGreatDoorTieK
import Derived.Test.YtdicpkjblflgbaaGreatDoorTieL
set_option linter.all false

/-
  The row's tie, out of its facts.
-/
namespace Go.Proofs.YtdicpkjblflgbaaGreatDoor
open Go
theorem ownTie : Tryz.prog.laidByTextLater tieList tieKinds true :=
  Program.laidByTextLater_of_run 802 400 8 tie_hw tie_hw2 tie_hroot tie_hk tie_hg3 tie_hn3 tie_hd3 tie_h13 tie_h23
theorem ownUpto_row_tie : Rows.deskDrawsUptoRow.laidByTextAt .later Tryz.pinned [.data, .data, .data, .pinned, .data, .sentinel, .sentinel, .pinned, .data] true :=
  OpenClaim.laidByTextAt_pinned rfl rfl ownTie rfl rfl rfl rfl (fun y hy _e => by
    simp only [Rows.deskDrawsUptoRow, List.zip_cons_cons, List.zip_nil_right, List.mem_cons, List.mem_nil_iff, or_false] at hy
    rcases hy with rfl | rfl | rfl | rfl | rfl | rfl | rfl | rfl | rfl
    · cases _e
    · cases _e
    · cases _e
    · exact ⟨tie_pin1, by kernel_rfl⟩
    · cases _e
    · cases _e
    · cases _e
    · exact ⟨pin_laid_unicode_CaseRanges, by kernel_rfl⟩
    · cases _e) fits1
end Go.Proofs.YtdicpkjblflgbaaGreatDoor
