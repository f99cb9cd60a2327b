/- The row's closed facts over the program's text, one by one. -/
import Derived.JoinedOf
import Derived.KernelRfl
import Derived.Test.YtopbojifllnckaaGreatDoorRows
namespace Go.Proofs.YtopbojifllnckaaGreatDoor
theorem joined_of {P : Program} {f : FuncId} {fn : Func} {s : ChangeSpec} {c : OpenClaim}
    (h0 : c.wf (OpenSpec.ofChange s) = true)
    (h1 : laidOutB P = true)
    (h2 : mapsRowed P = true)
    (h3 : fn.params.all (P.readableRec ·) = true)
    (h4 : namedTie P c.named s.vars = true)
    (h5 : (c.stops == []) = true)
    (h6 : (P.stops == []) = true)
    (h7 : (c.knobs == []) = true)
    (h8 : (P.stopKnobs == []) = true)
    (h9 : (c.inPlace == P.inPlace f) = true)
    (h10 : (c.unfollowed == P.unfollowed f) = true)
    (h11 : (c.recurses == P.recurses f) = true)
    (h12 : (c.named == P.varsNamed f) = true)
    (h13 : (c.maps == (fn.params.toList ++ s.plain.varTypes P).any (P.mapsRec ·)) = true)
    (h14 : (c.ifaces == (fn.params.toList ++ s.plain.varTypes P).any (P.ifacesRec ·)) = true)
    (h15 : (c.mapsOut == P.mapsAmong fn.resultTypes.toList) = true)
    (h16 : (c.loops == (fn.params.toList ++ s.plain.varTypes P).any (P.loopsFrom ·)) = true)
    (h17 : (c.wideKeys == (fn.params.toList ++ s.plain.varTypes P ++ fn.resultTypes.toList).any (P.wideKeysFrom ·)) = true)
    (h18 : s.vars.all (P.varReadable ·) = true)
    (h19 : fn.resultTypes.all (fun t => P.readableRec t && decide (t < P.types.size)) = true)
    (h20 : (c.ifacesOut == fn.resultTypes.toList.any (P.ifacesRec ·)) = true)
    (h21 : (c.loopsOut == fn.resultTypes.toList.any (P.loopsFrom ·)) = true)
    (h22 : (c.plainKeys == P.plainKeys) = true)
    (h23 : c.shortTexts.isNone = true)
    (h24 : P.stopsHeard = true)
    (h25 : P.mayEnter = true)
    (h26 : (c.lifted == P.liftsFinal) = true)
    (h27 : (P.make == some c.make) = true)
    (h28 : (c.kinds == (if c.domain.isEmpty then [] else fn.params.toList.map fun t => match P.underlying t with | some (.int k) => some k | _ => none)) = true)
    (h29 : (c.pinned == c.pinnedBy) = true)
    (h30 : (c.veiled == (fn.params.toList ++ s.plain.varTypes P ++ fn.resultTypes.toList).any (P.veiledRec ·)) = true)
    (h31 : c.veiledFits P fn.params.toList (fn.params.toList ++ s.plain.varTypes P ++ fn.resultTypes.toList) = true) : joinedFacts P f fn s c = true := by
  unfold joinedFacts
  simp only [Bool.and_eq_true]
  exact ⟨⟨⟨⟨⟨⟨⟨⟨⟨⟨⟨⟨⟨⟨⟨⟨⟨⟨⟨⟨⟨⟨⟨⟨⟨⟨⟨⟨⟨⟨⟨h0, h1⟩, h2⟩, h3⟩, h4⟩, h5⟩, h6⟩, h7⟩, h8⟩, h9⟩, h10⟩, h11⟩, h12⟩, h13⟩, h14⟩, h15⟩, h16⟩, h17⟩, h18⟩, h19⟩, h20⟩, h21⟩, h22⟩, h23⟩, h24⟩, h25⟩, h26⟩, h27⟩, h28⟩, h29⟩, h30⟩, h31⟩
theorem stripes_j0 : Rows.topStripesRow.wf (OpenSpec.ofChange Rows.topStripesSpec) = true := by kernel_rfl
theorem stripes_j1 : laidOutB Tryz.pinned.checked.prog = true := by kernel_rfl
theorem stripes_j2 : mapsRowed Tryz.pinned.checked.prog = true := by kernel_rfl
theorem stripes_j3 : Tryz.f4.params.all (Tryz.pinned.checked.prog.readableRec ·) = true := by kernel_rfl
theorem stripes_j4 : namedTie Tryz.pinned.checked.prog Rows.topStripesRow.named Rows.topStripesSpec.vars = true := by kernel_rfl
theorem stripes_j5 : (Rows.topStripesRow.stops == []) = true := by kernel_rfl
theorem stripes_j6 : (Tryz.pinned.checked.prog.stops == []) = true := by kernel_rfl
theorem stripes_j7 : (Rows.topStripesRow.knobs == []) = true := by kernel_rfl
theorem stripes_j8 : (Tryz.pinned.checked.prog.stopKnobs == []) = true := by kernel_rfl
theorem stripes_j9 : (Rows.topStripesRow.inPlace == Tryz.pinned.checked.prog.inPlace 4) = true := by kernel_rfl
theorem stripes_j10 : (Rows.topStripesRow.unfollowed == Tryz.pinned.checked.prog.unfollowed 4) = true := by kernel_rfl
theorem stripes_j11 : (Rows.topStripesRow.recurses == Tryz.pinned.checked.prog.recurses 4) = true := by kernel_rfl
theorem stripes_j12 : (Rows.topStripesRow.named == Tryz.pinned.checked.prog.varsNamed 4) = true := by kernel_rfl
theorem stripes_j13 : (Rows.topStripesRow.maps == (Tryz.f4.params.toList ++ Rows.topStripesSpec.plain.varTypes Tryz.pinned.checked.prog).any (Tryz.pinned.checked.prog.mapsRec ·)) = true := by kernel_rfl
theorem stripes_j14 : (Rows.topStripesRow.ifaces == (Tryz.f4.params.toList ++ Rows.topStripesSpec.plain.varTypes Tryz.pinned.checked.prog).any (Tryz.pinned.checked.prog.ifacesRec ·)) = true := by kernel_rfl
theorem stripes_j15 : (Rows.topStripesRow.mapsOut == Tryz.pinned.checked.prog.mapsAmong Tryz.f4.resultTypes.toList) = true := by kernel_rfl
theorem stripes_j16 : (Rows.topStripesRow.loops == (Tryz.f4.params.toList ++ Rows.topStripesSpec.plain.varTypes Tryz.pinned.checked.prog).any (Tryz.pinned.checked.prog.loopsFrom ·)) = true := by kernel_rfl
theorem stripes_j17 : (Rows.topStripesRow.wideKeys == (Tryz.f4.params.toList ++ Rows.topStripesSpec.plain.varTypes Tryz.pinned.checked.prog ++ Tryz.f4.resultTypes.toList).any (Tryz.pinned.checked.prog.wideKeysFrom ·)) = true := by kernel_rfl
theorem stripes_j18 : Rows.topStripesSpec.vars.all (Tryz.pinned.checked.prog.varReadable ·) = true := by kernel_rfl
theorem stripes_j19 : Tryz.f4.resultTypes.all (fun t => Tryz.pinned.checked.prog.readableRec t && decide (t < Tryz.pinned.checked.prog.types.size)) = true := by kernel_rfl
theorem stripes_j20 : (Rows.topStripesRow.ifacesOut == Tryz.f4.resultTypes.toList.any (Tryz.pinned.checked.prog.ifacesRec ·)) = true := by kernel_rfl
theorem stripes_j21 : (Rows.topStripesRow.loopsOut == Tryz.f4.resultTypes.toList.any (Tryz.pinned.checked.prog.loopsFrom ·)) = true := by kernel_rfl
theorem stripes_j22 : (Rows.topStripesRow.plainKeys == Tryz.pinned.checked.prog.plainKeys) = true := by kernel_rfl
theorem stripes_j23 : Rows.topStripesRow.shortTexts.isNone = true := by kernel_rfl
theorem stripes_j24 : Tryz.pinned.checked.prog.stopsHeard = true := by kernel_rfl
theorem stripes_j25 : Tryz.pinned.checked.prog.mayEnter = true := by kernel_rfl
theorem stripes_j26 : (Rows.topStripesRow.lifted == Tryz.pinned.checked.prog.liftsFinal) = true := by kernel_rfl
theorem stripes_j27 : (Tryz.pinned.checked.prog.make == some Rows.topStripesRow.make) = true := by kernel_rfl
theorem stripes_j28 : (Rows.topStripesRow.kinds == (if Rows.topStripesRow.domain.isEmpty then [] else Tryz.f4.params.toList.map fun t => match Tryz.pinned.checked.prog.underlying t with | some (.int k) => some k | _ => none)) = true := by kernel_rfl
theorem stripes_j29 : (Rows.topStripesRow.pinned == Rows.topStripesRow.pinnedBy) = true := by kernel_rfl
theorem stripes_j30 : (Rows.topStripesRow.veiled == (Tryz.f4.params.toList ++ Rows.topStripesSpec.plain.varTypes Tryz.pinned.checked.prog ++ Tryz.f4.resultTypes.toList).any (Tryz.pinned.checked.prog.veiledRec ·)) = true := by kernel_rfl
theorem stripes_j31 : Rows.topStripesRow.veiledFits Tryz.pinned.checked.prog Tryz.f4.params.toList (Tryz.f4.params.toList ++ Rows.topStripesSpec.plain.varTypes Tryz.pinned.checked.prog ++ Tryz.f4.resultTypes.toList) = true := by kernel_rfl
theorem stripes_closed : joinedFacts Tryz.pinned.checked.prog 4 Tryz.f4 Rows.topStripesSpec Rows.topStripesRow = true :=
  joined_of stripes_j0 stripes_j1 stripes_j2 stripes_j3 stripes_j4 stripes_j5 stripes_j6 stripes_j7 stripes_j8 stripes_j9 stripes_j10 stripes_j11 stripes_j12 stripes_j13 stripes_j14 stripes_j15 stripes_j16 stripes_j17 stripes_j18 stripes_j19 stripes_j20 stripes_j21 stripes_j22 stripes_j23 stripes_j24 stripes_j25 stripes_j26 stripes_j27 stripes_j28 stripes_j29 stripes_j30 stripes_j31
end Go.Proofs.YtopbojifllnckaaGreatDoor
