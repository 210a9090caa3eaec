/- The facts on the program that the card asks, one by one. -/
import Derived.Test.YtebmoofioikenaaGreatDoorCards
import Derived.Test.YtebmoofioikenaaGreatDoorTie
import Derived.JoinedCond
import Derived.WalkKit
namespace Go.Proofs.YtebmoofioikenaaGreatDoor
set_option maxRecDepth 100000
set_option Elab.async false
abbrev houseKnown_bare := (OpenSpec.ofChange Rows.houseKnownSpec).bare
theorem and_t {a b : Bool} (h : a = true) (k : b = true) : (a && b) = true := by rw [h, k]; rfl
theorem houseKnown_j0 : (Rows.houseKnownRow.wf (OpenSpec.ofChange houseKnown_bare)) = true := by kernel_rfl
theorem houseKnown_j1 : (laidOutB Tryz.prog) = true := by kernel_rfl
theorem houseKnown_j2 : (mapsRowed Tryz.prog) = true := by kernel_rfl
theorem houseKnown_j3 : (Tryz.f3.params.all (Tryz.prog.readableRec ·)) = true := by kernel_rfl
theorem houseKnown_j4 : (namedTie Tryz.prog Rows.houseKnownRow.named houseKnown_bare.vars) = true := by kernel_rfl
theorem houseKnown_j5 : (Rows.houseKnownRow.stops == []) = true := by kernel_rfl
theorem houseKnown_j6 : (Tryz.prog.stops == []) = true := by kernel_rfl
theorem houseKnown_j7 : (Rows.houseKnownRow.knobs == []) = true := by kernel_rfl
theorem houseKnown_j8 : (Tryz.prog.stopKnobs == []) = true := by kernel_rfl
theorem houseKnown_j9 : (Rows.houseKnownRow.inPlace == Tryz.prog.inPlace 3) = true := by kernel_rfl
theorem houseKnown_j10 : (Rows.houseKnownRow.unfollowed == Tryz.prog.unfollowed 3) = true := by kernel_rfl
theorem houseKnown_j11 : (Rows.houseKnownRow.recurses == Tryz.prog.recurses 3) = true := by kernel_rfl
theorem houseKnown_j12 : (Rows.houseKnownRow.named == Tryz.prog.varsNamed 3) = true := by kernel_rfl
theorem houseKnown_j13 : (Rows.houseKnownRow.maps == (Tryz.f3.params.toList ++ houseKnown_bare.plain.varTypes Tryz.prog).any (Tryz.prog.mapsRec ·)) = true := by kernel_rfl
theorem houseKnown_j14 : (Rows.houseKnownRow.ifaces == (Tryz.f3.params.toList ++ houseKnown_bare.plain.varTypes Tryz.prog).any (Tryz.prog.ifacesRec ·)) = true := by kernel_rfl
theorem houseKnown_j15 : (Rows.houseKnownRow.mapsOut == Tryz.prog.mapsAmong Tryz.f3.resultTypes.toList) = true := by kernel_rfl
theorem houseKnown_j16 : (Rows.houseKnownRow.loops == (Tryz.f3.params.toList ++ houseKnown_bare.plain.varTypes Tryz.prog).any (Tryz.prog.loopsFrom ·)) = true := by kernel_rfl
theorem houseKnown_j17 : (Rows.houseKnownRow.wideKeys == (Tryz.f3.params.toList ++ houseKnown_bare.plain.varTypes Tryz.prog ++ Tryz.f3.resultTypes.toList).any (Tryz.prog.wideKeysFrom ·)) = true := by kernel_rfl
theorem houseKnown_j18 : (houseKnown_bare.vars.all (Tryz.prog.varReadable ·)) = true := by kernel_rfl
theorem houseKnown_j19 : (Tryz.f3.resultTypes.all (fun t => Tryz.prog.readableRec t && decide (t < Tryz.prog.types.size))) = true := by kernel_rfl
theorem houseKnown_j20 : (Rows.houseKnownRow.ifacesOut == Tryz.f3.resultTypes.toList.any (Tryz.prog.ifacesRec ·)) = true := by kernel_rfl
theorem houseKnown_j21 : (Rows.houseKnownRow.loopsOut == Tryz.f3.resultTypes.toList.any (Tryz.prog.loopsFrom ·)) = true := by kernel_rfl
theorem houseKnown_j22 : (Rows.houseKnownRow.plainKeys == Tryz.prog.plainKeys) = true := by kernel_rfl
theorem houseKnown_j23 : (Rows.houseKnownRow.shortTexts.isNone) = true := by kernel_rfl
theorem houseKnown_j24 : (Tryz.prog.stopsHeard) = true := by kernel_rfl
theorem houseKnown_j25 : (Tryz.prog.mayEnter) = true := by kernel_rfl
theorem houseKnown_j26 : (Rows.houseKnownRow.lifted == Tryz.prog.liftsFinal) = true := by kernel_rfl
theorem houseKnown_j27 : (Tryz.prog.make == some Rows.houseKnownRow.make) = true := by kernel_rfl
theorem houseKnown_j28 : (Rows.houseKnownRow.kinds == (if Rows.houseKnownRow.domain.isEmpty then [] else Tryz.f3.params.toList.map fun t => match Tryz.prog.underlying t with | some (.int k) => some k | _ => none)) = true := by kernel_rfl
theorem houseKnown_j29 : (Rows.houseKnownRow.pinned == Rows.houseKnownRow.pinnedBy) = true := by kernel_rfl
theorem houseKnown_j30 : (Rows.houseKnownRow.veiled == (Tryz.f3.params.toList ++ houseKnown_bare.plain.varTypes Tryz.prog ++ Tryz.f3.resultTypes.toList).any (Tryz.prog.veiledRec ·)) = true := by kernel_rfl
theorem houseKnown_j31 : (Rows.houseKnownRow.veiledFits Tryz.prog Tryz.f3.params.toList (Tryz.f3.params.toList ++ houseKnown_bare.plain.varTypes Tryz.prog ++ Tryz.f3.resultTypes.toList)) = true := by kernel_rfl
theorem houseKnown_closed : joinedFacts Tryz.prog 3 Tryz.f3 houseKnown_bare Rows.houseKnownRow = true := by
  unfold joinedFacts
  exact (and_t (and_t (and_t (and_t (and_t (and_t (and_t (and_t (and_t (and_t (and_t (and_t (and_t (and_t (and_t (and_t (and_t (and_t (and_t (and_t (and_t (and_t (and_t (and_t (and_t (and_t (and_t (and_t (and_t (and_t (and_t houseKnown_j0 houseKnown_j1) houseKnown_j2) houseKnown_j3) houseKnown_j4) houseKnown_j5) houseKnown_j6) houseKnown_j7) houseKnown_j8) houseKnown_j9) houseKnown_j10) houseKnown_j11) houseKnown_j12) houseKnown_j13) houseKnown_j14) houseKnown_j15) houseKnown_j16) houseKnown_j17) houseKnown_j18) houseKnown_j19) houseKnown_j20) houseKnown_j21) houseKnown_j22) houseKnown_j23) houseKnown_j24) houseKnown_j25) houseKnown_j26) houseKnown_j27) houseKnown_j28) houseKnown_j29) houseKnown_j30) houseKnown_j31)
theorem houseKnown_named : Tryz.prog.funcNamed "aloeswood/aloeswoodlaw10.HouseKnown" = some 3 := by kernel_rfl
theorem houseKnown_main : Tryz.prog.mainIs = some (Rows.houseKnownCard.stood.harness.1, Rows.houseKnownCard.stood.harness.2.toList) := by kernel_rfl
theorem houseKnown_looks : Rows.houseKnownCard.stood.looks = Tryz.prog.looks [] := by kernel_rfl
theorem houseKnown_goes : false = Rows.houseKnownRow.goesBy Tryz.prog := by kernel_rfl
theorem houseKnown_text : Rows.houseKnownRow.wfByText (OpenSpec.ofChange Rows.houseKnownSpec) = true := by kernel_rfl
end Go.Proofs.YtebmoofioikenaaGreatDoor
