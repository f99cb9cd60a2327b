/- The card's closed facts over the program's text. -/
import Derived.SevenTiedAt
import Derived.KernelRfl
import Derived.Test.YtopbojifllnckaaGreatDoorRows
namespace Go.Proofs.YtopbojifllnckaaGreatDoor
theorem fences_goes : false = Rows.topFencesRow.goesBy Tryz.pinned.checked.prog := by kernel_rfl
theorem fences_fn : Tryz.pinned.checked.prog.funcNamed Rows.topFencesRow.func = some 3 := by kernel_rfl
theorem fences_main : Tryz.pinned.checked.prog.mainIs = some (true, "4b0c7875cd0449dfa5cef2f10b10c28bf76c246e6f61b5507e7eb2dce4e4e8c0".toList) := by kernel_rfl
theorem fences_looks : true = Tryz.pinned.checked.prog.looks [] := by kernel_rfl
end Go.Proofs.YtopbojifllnckaaGreatDoor
