/- The run of awake, by the kernel. -/
import Derived.KernelRfl
import Derived.Test.YtopbojifllnckaaGreatDoorG16
namespace Go.Proofs.YtopbojifllnckaaGreatDoor
set_option maxRecDepth 10000000 in
theorem awake_run : isTrue (fF Tryz.prog 100000 staOf specTop 200 5 [] ⟨.e, 0⟩) = true := by kernel_rfl
theorem awake_any (w : World) : Calls Tryz.prog 5 #[] w fun e w' => e = .returned (.bool true) ∧ Go.RowKit.Below w.heap.size w w' := call_true awake_run w
end Go.Proofs.YtopbojifllnckaaGreatDoor
