/-
  No cell of these rows narrows 'for every input' (looked for: loops, veiled, ifaces, maps, wideKeys, modest, calm, conditions, laid).
  DERIVED. THE GIVEN ROWS OF THIS SEAT. 4 by the template 'for every input the law returns true; each argument reads behind the call as it read before'; 0 by the template 'total and deterministic' (their statements: YtdobilcfjpmakaaTotals.lean).
  GIVEN WITH THE SEED: the statements are not yours to turn. If you find one false, say at which input.
  Laid BY PROGRAM, IN A SANDBOX (cutbox-rows.mjs): the forced cells as the released guide's own fill.sh prints them over the translation 318a923d18908552… (all of the seat's roots in one cut). By AI agents, Wed Nov 11 2026. No macro, syntax, notation, axiom, sorry.
-/
import Derived.Test.YtdobilcfjpmakaaChecked
import GoSem.Claim
import GoSem.ClaimJoined
import GoSem.ClaimMapViews
import Derived.JoinedTies
import Derived.KernelRfl
namespace Go.Proofs.Ytdobilcfjpmakaa
/- THE CELL 'sum', in the pinned program and in every row, IS THE sha256 OF THE DUMP (.gsa) THAT YtdobilcfjpmakaaProg.lean LOADS. Nothing in Lean hashes anything: it is a label: what it is worth is what the hold of that sum in a sandbox is worth. -/
noncomputable def Try.pinned : Pinned := { name := "ytdobilcfjpmakaa", sum := "318a923d18908552078c7e7e3a298943f1d301fe75743936f61f2b8e0efc154c", checked := Try.checked }
namespace Rows
def none {H : Type} : Left H := { results := [], args := [] }

/-- 'hurdlelaw30.LayoutPlaces': WHATEVER THE INPUT: true; the input reads as it did. -/
def layoutPlacesSpec : ChangeSpec := { name := "layoutPlaces", fn := fun _ => fun
  | [d1, d2, d3] => { results := [.lit (.bool true)], args := [d1, d2, d3] }
  | _ => none }
def layoutPlacesRow : OpenClaim := { program := "ytdobilcfjpmakaa", sum := "318a923d18908552078c7e7e3a298943f1d301fe75743936f61f2b8e0efc154c", func := "hurdle/hurdlelaw30.LayoutPlaces", spec := "layoutPlaces", apart := false }
def LayoutPlacesSaid : Prop := layoutPlacesRow.holds Try.pinned (OpenSpec.ofChange layoutPlacesSpec)

/-- ITS FALSE NEIGHBOUR: 'it returns false'. Refute it at one input. -/
def layoutPlacesWrong : ChangeSpec := { name := "layoutPlaces", fn := fun _ => fun
  | [d1, d2, d3] => { results := [.lit (.bool false)], args := [d1, d2, d3] }
  | _ => none }
def LayoutPlacesWrongFalsely : Prop := layoutPlacesRow.holds Try.pinned (OpenSpec.ofChange layoutPlacesWrong)

/-- 'hurdlelaw30.LayoutLoads': WHATEVER THE INPUT: true; the input reads as it did. -/
def layoutLoadsSpec : ChangeSpec := { name := "layoutLoads", fn := fun _ => fun
  | [d1, d2] => { results := [.lit (.bool true)], args := [d1, d2] }
  | _ => none }
def layoutLoadsRow : OpenClaim := { program := "ytdobilcfjpmakaa", sum := "318a923d18908552078c7e7e3a298943f1d301fe75743936f61f2b8e0efc154c", func := "hurdle/hurdlelaw30.LayoutLoads", spec := "layoutLoads", apart := false }
def LayoutLoadsSaid : Prop := layoutLoadsRow.holds Try.pinned (OpenSpec.ofChange layoutLoadsSpec)

/-- ITS FALSE NEIGHBOUR: 'it returns false'. Refute it at one input. -/
def layoutLoadsWrong : ChangeSpec := { name := "layoutLoads", fn := fun _ => fun
  | [d1, d2] => { results := [.lit (.bool false)], args := [d1, d2] }
  | _ => none }
def LayoutLoadsWrongFalsely : Prop := layoutLoadsRow.holds Try.pinned (OpenSpec.ofChange layoutLoadsWrong)

/-- 'hurdlelaw30.LayoutOne': WHATEVER THE INPUT: true; the input reads as it did. -/
def layoutOneSpec : ChangeSpec := { name := "layoutOne", fn := fun _ => fun
  | [d1, d2] => { results := [.lit (.bool true)], args := [d1, d2] }
  | _ => none }
def layoutOneRow : OpenClaim := { program := "ytdobilcfjpmakaa", sum := "318a923d18908552078c7e7e3a298943f1d301fe75743936f61f2b8e0efc154c", func := "hurdle/hurdlelaw30.LayoutOne", spec := "layoutOne", apart := false }
def LayoutOneSaid : Prop := layoutOneRow.holds Try.pinned (OpenSpec.ofChange layoutOneSpec)

/-- ITS FALSE NEIGHBOUR: 'it returns false'. Refute it at one input. -/
def layoutOneWrong : ChangeSpec := { name := "layoutOne", fn := fun _ => fun
  | [d1, d2] => { results := [.lit (.bool false)], args := [d1, d2] }
  | _ => none }
def LayoutOneWrongFalsely : Prop := layoutOneRow.holds Try.pinned (OpenSpec.ofChange layoutOneWrong)

/-- 'hurdlelaw30.LayoutEven': WHATEVER THE INPUT: true; the input reads as it did. -/
def layoutEvenSpec : ChangeSpec := { name := "layoutEven", fn := fun _ => fun
  | [d1, d2] => { results := [.lit (.bool true)], args := [d1, d2] }
  | _ => none }
def layoutEvenRow : OpenClaim := { program := "ytdobilcfjpmakaa", sum := "318a923d18908552078c7e7e3a298943f1d301fe75743936f61f2b8e0efc154c", func := "hurdle/hurdlelaw30.LayoutEven", spec := "layoutEven", apart := false }
def LayoutEvenSaid : Prop := layoutEvenRow.holds Try.pinned (OpenSpec.ofChange layoutEvenSpec)

/-- ITS FALSE NEIGHBOUR: 'it returns false'. Refute it at one input. -/
def layoutEvenWrong : ChangeSpec := { name := "layoutEven", fn := fun _ => fun
  | [d1, d2] => { results := [.lit (.bool false)], args := [d1, d2] }
  | _ => none }
def LayoutEvenWrongFalsely : Prop := layoutEvenRow.holds Try.pinned (OpenSpec.ofChange layoutEvenWrong)

/- THE SECOND FORM. 'bulk': how many values and letters a reading holds, each counted each time it is reached (what is shared counts as often as it is met; a slice's spare places count too). A statement '..UptoSaid' is the law's where the arguments, and the package variables that the reading takes, are together of bulk at most 1048576: NARROWER than '..Said'. Prove '..Said' where nothing that the law and all that it calls make is longer than what came in: it says more and counts as full. Else prove '..UptoSaid'. A law counts once. -/
mutual
def uptoBulk {H : Type} : DataW H → Nat
  | .lit (.string bytes) => bytes.length + 1
  | .lit _ => 1
  | .nil => 1
  | .ptr d => uptoBulk d + 1
  | .slice elems spare => uptoBulkAll elems + uptoBulkAll spare + 1
  | .agg parts => uptoBulkAll parts + 1
  | .iface _ d => uptoBulk d + 1
  | .map entries => uptoBulkEntries entries + 1
  | .held _ => 1
def uptoBulkAll {H : Type} : List (DataW H) → Nat
  | [] => 0
  | d :: r => uptoBulk d + uptoBulkAll r
def uptoBulkEntries {H : Type} : List (Lit × DataW H) → Nat
  | [] => 0
  | x :: r => uptoBulkEntry x + uptoBulkEntries r
def uptoBulkEntry {H : Type} : Lit × DataW H → Nat
  | (.string bytes, d) => bytes.length + uptoBulk d + 1
  | (_, d) => uptoBulk d + 1
 end
def uptoSmall : (H : Type) → List (DataW H) → Bool := fun _ ds => decide (uptoBulkAll ds ≤ 1048576)
def OpenSpec.upto (s : _root_.Go.ChangeSpec) : _root_.Go.OpenSpec := { _root_.Go.OpenSpec.ofChange s with cond := some uptoSmall }

/-- 'hurdlelaw30.LayoutPlaces', WHERE WHAT IT READS IS OF BULK AT MOST 1048576: true; the input reads as it did. -/
def layoutPlacesUptoRow : OpenClaim := { program := "ytdobilcfjpmakaa", sum := "318a923d18908552078c7e7e3a298943f1d301fe75743936f61f2b8e0efc154c", func := "hurdle/hurdlelaw30.LayoutPlaces", spec := "layoutPlaces", apart := false, narrowed := true }
def LayoutPlacesUptoSaid : Prop := layoutPlacesUptoRow.holds Try.pinned (OpenSpec.upto layoutPlacesSpec)

/-- 'hurdlelaw30.LayoutLoads', WHERE WHAT IT READS IS OF BULK AT MOST 1048576: true; the input reads as it did. -/
def layoutLoadsUptoRow : OpenClaim := { program := "ytdobilcfjpmakaa", sum := "318a923d18908552078c7e7e3a298943f1d301fe75743936f61f2b8e0efc154c", func := "hurdle/hurdlelaw30.LayoutLoads", spec := "layoutLoads", apart := false, narrowed := true }
def LayoutLoadsUptoSaid : Prop := layoutLoadsUptoRow.holds Try.pinned (OpenSpec.upto layoutLoadsSpec)

/-- 'hurdlelaw30.LayoutOne', WHERE WHAT IT READS IS OF BULK AT MOST 1048576: true; the input reads as it did. -/
def layoutOneUptoRow : OpenClaim := { program := "ytdobilcfjpmakaa", sum := "318a923d18908552078c7e7e3a298943f1d301fe75743936f61f2b8e0efc154c", func := "hurdle/hurdlelaw30.LayoutOne", spec := "layoutOne", apart := false, narrowed := true }
def LayoutOneUptoSaid : Prop := layoutOneUptoRow.holds Try.pinned (OpenSpec.upto layoutOneSpec)

/-- 'hurdlelaw30.LayoutEven', WHERE WHAT IT READS IS OF BULK AT MOST 1048576: true; the input reads as it did. -/
def layoutEvenUptoRow : OpenClaim := { program := "ytdobilcfjpmakaa", sum := "318a923d18908552078c7e7e3a298943f1d301fe75743936f61f2b8e0efc154c", func := "hurdle/hurdlelaw30.LayoutEven", spec := "layoutEven", apart := false, narrowed := true }
def LayoutEvenUptoSaid : Prop := layoutEvenUptoRow.holds Try.pinned (OpenSpec.upto layoutEvenSpec)

end Rows
end Go.Proofs.Ytdobilcfjpmakaa
