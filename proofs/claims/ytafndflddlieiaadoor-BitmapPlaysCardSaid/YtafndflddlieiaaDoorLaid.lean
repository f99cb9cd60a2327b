/- What the row's condition on the library's table gives: the table stands in block 0. -/
import Derived.Test.YtafndflddlieiaaDoorRows
import Derived.Test.YtafndflddlieiaaDoorAwake
import Derived.ProofKit
import Derived.LaidMore
import Derived.OpenShut
import Derived.Stop.Joined
namespace Go.Proofs.YtafndflddlieiaaDoor
open Go.ChangeShapes Go.WideShapes Go.ChangeAt Go.RowKit

abbrev laidT : List (String × DataW Unit) := [("math/bits.deBruijn64tab", Rows.laid_math_bits_deBruijn64tab)]
theorem gTab : Tryd.prog.globalNamed "math/bits.deBruijn64tab" = some 0 := by kernel_rfl
theorem tTab : (Tryd.prog.globals[0]?).map (·.type) = some 75 := by kernel_rfl
theorem cells5 : Tryd.prog.cellsOf 5 = 1 := by kernel_rfl
theorem cells75 : Tryd.prog.cellsOf 75 = 64 := by kernel_rfl
theorem laid_at : (Rows.laid_math_bits_deBruijn64tab (H := Unit)) = .agg (dbL.map fun i => .lit (.int .u8 (i : Nat))) := by rfl
theorem door_met (os : Os) (args : Array Value) : laidMetH Tryd.prog laidT ((World.doorLaid Tryd.prog 400 os).forCall (fun _ _ => 0) ⟨#[], args, []⟩).memory :=
  laidMetH_of_parts3 (fuel := 8) (laidMet_of_run' 8 (by kernel_rfl) (by kernel_rfl)) (by kernel_rfl) (by kernel_rfl)
theorem tab_of_laid {W : World} (h : laidMetH Tryd.prog laidT W) : TabIs W := by
  rw [MakeChecks.laidMetH_plain _ _ _ (by kernel_rfl)] at h
  obtain ⟨ps, ⟨g0, t0, cs0, f0, p0, q0, hg0, ht0, hv0, hd0, _⟩, _, _⟩ := h
  obtain rfl := Option.some.inj (gTab.symm.trans hg0)
  obtain rfl := Option.some.inj (tTab.symm.trans ht0)
  obtain ⟨xs, m1, rfl, hx, hlen, hn, hel⟩ := DataW.trod_array Tryd.underlying75 hd0
  rw [cells75] at hlen
  intro i hi
  have h0 := hel i hi
  rw [cells5, Nat.mul_one] at h0
  have hxi : xs[i]? = some (xs[i]'(by omega)) := List.getElem?_eq_getElem (by omega)
  rw [hxi] at h0
  obtain ⟨k, e1, e2, _⟩ := DataW.trod_int Tryd.underlying5 h0
  simp only [Prod.mk.injEq] at hx
  have hx1 := hx.1
  rw [laid_at] at hx1
  injection hx1 with hx1
  have hk : (dbL.map fun i => (DataW.lit (.int .u8 (i : Nat)) : DataW Unit))[i]? = (xs.map (·.1))[i]? := by rw [hx1]
  rw [List.getElem?_map, List.getElem?_map, hxi] at hk
  have hdl : i < dbL.length := by simp [dbL]; omega
  rw [List.getElem?_eq_getElem hdl] at hk
  simp only [Option.map_some, Option.some.injEq] at hk
  rw [e2] at hk
  have hkk : k = (dbL[i] : Int) := by
    injection hk with hk
    injection hk with _ hk
    exact hk.symm
  have hcell := World.var?_cell hg0 hv0 i
  rw [hcell]
  have hcl : i < cs0.toList.length := by omega
  rw [List.drop_eq_getElem_cons hcl] at e1
  simp only [List.take_succ_cons, List.take_zero, List.cons.injEq, and_true] at e1
  have : cs0[i]? = some (cs0.toList[i]) := by
    rw [← Array.getElem?_toList, List.getElem?_eq_getElem hcl]
  rw [this, e1, hkk, List.getD_eq_getElem?_getD, List.getElem?_eq_getElem hdl]
  rfl
end Go.Proofs.YtafndflddlieiaaDoor
