/- array.New on the law's numbers, by the evaluator. -/
import Derived.KernelRfl
import Derived.Test.YtopbojifllnckaaGreatDoorG43
namespace Go.Proofs.YtopbojifllnckaaGreatDoor
open Go.RowKit
noncomputable def nwRun : Option (AV × St) := fF Tryz.prog 100000 staOf specTop 200 12 [.int .i64 5, .int .i64 100, .int .i64 4, .int .i64 1] ⟨.e, 0⟩
/-- Which block belongs to which part. -/
def tagsOf (a sg gm p1 p2 p4 p6 b1 b2 m6 r : Nat) (V G D S R M : Nat → Nat) : List (Nat × Nat) :=
  [(p1, 1), (b1, 1), (b2, 1), (p2, 2), (p4, 4), (p6, 6), (m6, 6), (gm, 7), (a, 8), (sg, 9), (r, 9)] ++ (List.range 5).flatMap fun i => [(V i, 9), (G i, i + 11), (D i, i + 11), (S i, i + 11), (R i, i + 11), (M i, i + 11)]
/-- A server, its device and its store. -/
noncomputable def srvB (σ : St) (v g d s r m k : Nat) (e : Bool) : Bool :=
  obC σ v 106 [.ptr (some (d, 0)), .ptr (some (g, 0)), .bool false, .bool false] && (obC σ g 285 [.ptr (some (d, 0)), .slc (some (s, 0)) 11 k e, .bool false] &&
  (obP σ s 287 (List.replicate 11 [.bool false, .int .i64 0, .int .i64 0, .int .i64 0]).flatten && (obC σ d 282 [.slc (some (r, 0)) 100 100 true, .map (some m), .bool false] &&
  (obC σ r 9 (List.replicate 100 (.str (List.replicate 64 0))) && (obM σ m && Nat.ble 11 k)))))
noncomputable def nwOK (v : AV) (σ : St) (a sg gm p1 p2 p3 p4 p5 p6 b1 b2 m6 r k : Nat) (e : Bool) (V G D S R M K : Nat → Nat) (X : Nat → Bool) : Bool :=
  vEq v (.ptr (some (a, 0))) && (obC σ a 100 ([.ptr (some (sg, 0)), .ptr (some (gm, 0)), .int .i64 4] ++ List.replicate 16 (.int .i64 0)) &&
  (obC σ gm 82 [.ptr (some (p1, 0)), .ptr (some (p2, 0)), .ptr (some (p3, 0)), .ptr (some (p4, 0)), .ptr (some (p5, 0)), .ptr (some (p6, 0)), .int .i64 0] &&
  (obC σ p1 153 [.slc (some (b1, 0)) 4 4 true, .slc (some (b2, 0)) 1 1 true, .int .i64 1, .int .i64 (-1), .bool false, .int .i64 (-1)] &&
  (obC σ b1 3 [.int .i64 0, .int .i64 1, .int .i64 2, .int .i64 3] && (obC σ b2 3 [.int .i64 4] &&
  (obC σ p2 156 [.slc none 0 0 true, .int .i64 0] && (obC σ p4 164 [.slc none 0 0 true] && (obC σ p6 170 [.int .i64 4, .map (some m6)] && (obM σ m6 &&
  (obC σ sg 198 [.slc (some (r, 0)) 5 k e] && (obP σ r 101 ((List.range 5).map fun i => .ptr (some (V i, 0))) &&
  (((List.range 5).all fun i => srvB σ (V i) (G i) (D i) (S i) (R i) (M i) (K i) (X i)) &&
  (nodB ((tagsOf a sg gm p1 p2 p4 p6 b1 b2 m6 r V G D S R M).map (·.1)) && ((tagsOf a sg gm p1 p2 p4 p6 b1 b2 m6 r V G D S R M).all fun p => (σ.heap.get p.1).isSome))))))))))))))
noncomputable def nwChk : Option (AV × St) → Bool
  | some (v, σ) =>
    let a := ptO v
    let sg := cellO σ a 0
    let gm := cellO σ a 1
    let p1 := cellO σ gm 0
    let p6 := cellO σ gm 5
    let r := cellO σ sg 0
    nwOK v σ a sg gm p1 (cellO σ gm 1) (cellO σ gm 2) (cellO σ gm 3) (cellO σ gm 4) p6 (cellO σ p1 0) (cellO σ p1 1) (cellO σ p6 1) r (capO (cellV σ sg 0)) (exO (cellV σ sg 0))
      (fun i => cellO σ r i) (fun i => cellO σ (cellO σ r i) 1) (fun i => cellO σ (cellO σ r i) 0) (fun i => cellO σ (cellO σ (cellO σ r i) 1) 1) (fun i => cellO σ (cellO σ (cellO σ r i) 0) 0) (fun i => cellO σ (cellO σ (cellO σ r i) 0) 1)
      (fun i => capO (cellV σ (cellO σ (cellO σ r i) 1) 1)) (fun i => exO (cellV σ (cellO σ (cellO σ r i) 1) 1))
  | none => false
set_option maxRecDepth 1000000 in
theorem nw_run : nwChk nwRun = true := by kernel_rfl
end Go.Proofs.YtopbojifllnckaaGreatDoor
