/- The row's closed facts over the program's text, one by one. -/
import Derived.JoinedOf
import Derived.KernelRfl
import Derived.Test.YtopbojifllnckaaGreatDoorRows
namespace Go.Proofs.YtopbojifllnckaaGreatDoor
theorem joined_of {P : Program} {f : FuncId} {fn : Func} {s : ChangeSpec} {c : OpenClaim}
    (h0 : c.wf (OpenSpec.ofChange s) = true)
    (h1 : laidOutB P = true)
    (h2 : mapsRowed P = true)
    (h3 : fn.params.all (P.readableRec ·) = true)
    (h4 : namedTie P c.named s.vars = true)
    (h5 : (c.stops == []) = true)
    (h6 : (P.stops == []) = true)
    (h7 : (c.knobs == []) = true)
    (h8 : (P.stopKnobs == []) = true)
    (h9 : (c.inPlace == P.inPlace f) = true)
    (h10 : (c.unfollowed == P.unfollowed f) = true)
    (h11 : (c.recurses == P.recurses f) = true)
    (h12 : (c.named == P.varsNamed f) = true)
    (h13 : (c.maps == (fn.params.toList ++ s.plain.varTypes P).any (P.mapsRec ·)) = true)
    (h14 : (c.ifaces == (fn.params.toList ++ s.plain.varTypes P).any (P.ifacesRec ·)) = true)
    (h15 : (c.mapsOut == P.mapsAmong fn.resultTypes.toList) = true)
    (h16 : (c.loops == (fn.params.toList ++ s.plain.varTypes P).any (P.loopsFrom ·)) = true)
    (h17 : (c.wideKeys == (fn.params.toList ++ s.plain.varTypes P ++ fn.resultTypes.toList).any (P.wideKeysFrom ·)) = true)
    (h18 : s.vars.all (P.varReadable ·) = true)
    (h19 : fn.resultTypes.all (fun t => P.readableRec t && decide (t < P.types.size)) = true)
    (h20 : (c.ifacesOut == fn.resultTypes.toList.any (P.ifacesRec ·)) = true)
    (h21 : (c.loopsOut == fn.resultTypes.toList.any (P.loopsFrom ·)) = true)
    (h22 : (c.plainKeys == P.plainKeys) = true)
    (h23 : c.shortTexts.isNone = true)
    (h24 : P.stopsHeard = true)
    (h25 : P.mayEnter = true)
    (h26 : (c.lifted == P.liftsFinal) = true)
    (h27 : (P.make == some c.make) = true)
    (h28 : (c.kinds == (if c.domain.isEmpty then [] else fn.params.toList.map fun t => match P.underlying t with | some (.int k) => some k | _ => none)) = true)
    (h29 : (c.pinned == c.pinnedBy) = true)
    (h30 : (c.veiled == (fn.params.toList ++ s.plain.varTypes P ++ fn.resultTypes.toList).any (P.veiledRec ·)) = true)
    (h31 : c.veiledFits P fn.params.toList (fn.params.toList ++ s.plain.varTypes P ++ fn.resultTypes.toList) = true) : joinedFacts P f fn s c = true := by
  unfold joinedFacts
  simp only [Bool.and_eq_true]
  exact ⟨⟨⟨⟨⟨⟨⟨⟨⟨⟨⟨⟨⟨⟨⟨⟨⟨⟨⟨⟨⟨⟨⟨⟨⟨⟨⟨⟨⟨⟨⟨h0, h1⟩, h2⟩, h3⟩, h4⟩, h5⟩, h6⟩, h7⟩, h8⟩, h9⟩, h10⟩, h11⟩, h12⟩, h13⟩, h14⟩, h15⟩, h16⟩, h17⟩, h18⟩, h19⟩, h20⟩, h21⟩, h22⟩, h23⟩, h24⟩, h25⟩, h26⟩, h27⟩, h28⟩, h29⟩, h30⟩, h31⟩
theorem fences_j0 : Rows.topFencesRow.wf (OpenSpec.ofChange Rows.topFencesSpec) = true := by kernel_rfl
theorem fences_j1 : laidOutB Tryz.pinned.checked.prog = true := by kernel_rfl
theorem fences_j2 : mapsRowed Tryz.pinned.checked.prog = true := by kernel_rfl
theorem fences_j3 : Tryz.f3.params.all (Tryz.pinned.checked.prog.readableRec ·) = true := by kernel_rfl
theorem fences_j4 : namedTie Tryz.pinned.checked.prog Rows.topFencesRow.named Rows.topFencesSpec.vars = true := by kernel_rfl
theorem fences_j5 : (Rows.topFencesRow.stops == []) = true := by kernel_rfl
theorem fences_j6 : (Tryz.pinned.checked.prog.stops == []) = true := by kernel_rfl
theorem fences_j7 : (Rows.topFencesRow.knobs == []) = true := by kernel_rfl
theorem fences_j8 : (Tryz.pinned.checked.prog.stopKnobs == []) = true := by kernel_rfl
theorem fences_j9 : (Rows.topFencesRow.inPlace == Tryz.pinned.checked.prog.inPlace 3) = true := by kernel_rfl
theorem fences_j10 : (Rows.topFencesRow.unfollowed == Tryz.pinned.checked.prog.unfollowed 3) = true := by kernel_rfl
theorem fences_j11 : (Rows.topFencesRow.recurses == Tryz.pinned.checked.prog.recurses 3) = true := by kernel_rfl
theorem fences_j12 : (Rows.topFencesRow.named == Tryz.pinned.checked.prog.varsNamed 3) = true := by kernel_rfl
theorem fences_j13 : (Rows.topFencesRow.maps == (Tryz.f3.params.toList ++ Rows.topFencesSpec.plain.varTypes Tryz.pinned.checked.prog).any (Tryz.pinned.checked.prog.mapsRec ·)) = true := by kernel_rfl
theorem fences_j14 : (Rows.topFencesRow.ifaces == (Tryz.f3.params.toList ++ Rows.topFencesSpec.plain.varTypes Tryz.pinned.checked.prog).any (Tryz.pinned.checked.prog.ifacesRec ·)) = true := by kernel_rfl
theorem fences_j15 : (Rows.topFencesRow.mapsOut == Tryz.pinned.checked.prog.mapsAmong Tryz.f3.resultTypes.toList) = true := by kernel_rfl
theorem fences_j16 : (Rows.topFencesRow.loops == (Tryz.f3.params.toList ++ Rows.topFencesSpec.plain.varTypes Tryz.pinned.checked.prog).any (Tryz.pinned.checked.prog.loopsFrom ·)) = true := by kernel_rfl
theorem fences_j17 : (Rows.topFencesRow.wideKeys == (Tryz.f3.params.toList ++ Rows.topFencesSpec.plain.varTypes Tryz.pinned.checked.prog ++ Tryz.f3.resultTypes.toList).any (Tryz.pinned.checked.prog.wideKeysFrom ·)) = true := by kernel_rfl
theorem fences_j18 : Rows.topFencesSpec.vars.all (Tryz.pinned.checked.prog.varReadable ·) = true := by kernel_rfl
theorem fences_j19 : Tryz.f3.resultTypes.all (fun t => Tryz.pinned.checked.prog.readableRec t && decide (t < Tryz.pinned.checked.prog.types.size)) = true := by kernel_rfl
theorem fences_j20 : (Rows.topFencesRow.ifacesOut == Tryz.f3.resultTypes.toList.any (Tryz.pinned.checked.prog.ifacesRec ·)) = true := by kernel_rfl
theorem fences_j21 : (Rows.topFencesRow.loopsOut == Tryz.f3.resultTypes.toList.any (Tryz.pinned.checked.prog.loopsFrom ·)) = true := by kernel_rfl
theorem fences_j22 : (Rows.topFencesRow.plainKeys == Tryz.pinned.checked.prog.plainKeys) = true := by kernel_rfl
theorem fences_j23 : Rows.topFencesRow.shortTexts.isNone = true := by kernel_rfl
theorem fences_j24 : Tryz.pinned.checked.prog.stopsHeard = true := by kernel_rfl
theorem fences_j25 : Tryz.pinned.checked.prog.mayEnter = true := by kernel_rfl
theorem fences_j26 : (Rows.topFencesRow.lifted == Tryz.pinned.checked.prog.liftsFinal) = true := by kernel_rfl
theorem fences_j27 : (Tryz.pinned.checked.prog.make == some Rows.topFencesRow.make) = true := by kernel_rfl
theorem fences_j28 : (Rows.topFencesRow.kinds == (if Rows.topFencesRow.domain.isEmpty then [] else Tryz.f3.params.toList.map fun t => match Tryz.pinned.checked.prog.underlying t with | some (.int k) => some k | _ => none)) = true := by kernel_rfl
theorem fences_j29 : (Rows.topFencesRow.pinned == Rows.topFencesRow.pinnedBy) = true := by kernel_rfl
theorem fences_j30 : (Rows.topFencesRow.veiled == (Tryz.f3.params.toList ++ Rows.topFencesSpec.plain.varTypes Tryz.pinned.checked.prog ++ Tryz.f3.resultTypes.toList).any (Tryz.pinned.checked.prog.veiledRec ·)) = true := by kernel_rfl
theorem fences_j31 : Rows.topFencesRow.veiledFits Tryz.pinned.checked.prog Tryz.f3.params.toList (Tryz.f3.params.toList ++ Rows.topFencesSpec.plain.varTypes Tryz.pinned.checked.prog ++ Tryz.f3.resultTypes.toList) = true := by kernel_rfl
theorem fences_closed : joinedFacts Tryz.pinned.checked.prog 3 Tryz.f3 Rows.topFencesSpec Rows.topFencesRow = true :=
  joined_of fences_j0 fences_j1 fences_j2 fences_j3 fences_j4 fences_j5 fences_j6 fences_j7 fences_j8 fences_j9 fences_j10 fences_j11 fences_j12 fences_j13 fences_j14 fences_j15 fences_j16 fences_j17 fences_j18 fences_j19 fences_j20 fences_j21 fences_j22 fences_j23 fences_j24 fences_j25 fences_j26 fences_j27 fences_j28 fences_j29 fences_j30 fences_j31
end Go.Proofs.YtopbojifllnckaaGreatDoor
