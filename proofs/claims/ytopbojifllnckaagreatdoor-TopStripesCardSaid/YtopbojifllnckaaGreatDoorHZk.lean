/- The card's closed facts over the program's text. -/
import Derived.SevenTiedAt
import Derived.KernelRfl
import Derived.Test.YtopbojifllnckaaGreatDoorRows
namespace Go.Proofs.YtopbojifllnckaaGreatDoor
theorem stripes_goes : false = Rows.topStripesRow.goesBy Tryz.pinned.checked.prog := by kernel_rfl
theorem stripes_fn : Tryz.pinned.checked.prog.funcNamed Rows.topStripesRow.func = some 4 := by kernel_rfl
theorem stripes_main : Tryz.pinned.checked.prog.mainIs = some (true, "4b0c7875cd0449dfa5cef2f10b10c28bf76c246e6f61b5507e7eb2dce4e4e8c0".toList) := by kernel_rfl
theorem stripes_looks : true = Tryz.pinned.checked.prog.looks [] := by kernel_rfl
end Go.Proofs.YtopbojifllnckaaGreatDoor
