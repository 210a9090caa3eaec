/-
  The law aloeswoodlaw03.ScoreKnown returns true. No condition: it has no argument.
-/
import Derived.Test.YtmkndicbddahgaaDoorCards
import Derived.Test.YtmkndicbddahgaaDoorTie
import Derived.Test.YtmkndicbddahgaaDoorScoreC
import Derived.Test.YtmkndicbddahgaaDoorAi30
import Derived.WalkKit
import Derived.ProofKit
import Derived.OpenShut
import Derived.Deep.DeepHandedRow
import Derived.Lib.LaidTab
namespace Go.Proofs.YtmkndicbddahgaaDoor
open Go.ChangeShapes Go.WideShapes Go.ChangeAt Go.RowKit
set_option linter.unusedVariables false
set_option maxRecDepth 100000
set_option Elab.async false

theorem scoreKnown_own : ownKnob Tryd.prog.godebug = Option.none := by kernel_rfl

noncomputable def scoreKnown_gs : List (Nat × Go.Ai.ABlk) := [(0, .cells true [.str [], .str [111, 112, 101, 110], .str [112, 97, 117, 115, 101, 100], .str [99, 108, 111, 115, 101, 100], .str [115, 104, 111, 119, 110]] 1)]
theorem scoreKnown_glob {W : World} (hL : laidMetH Tryd.prog Rows.scoreKnownRow.laid W) : ∀ p ∈ scoreKnown_gs, p.1 < 9 ∧ ∃ vs, p.2 = .cells true vs 1 ∧ ∃ cs t fz, W.heap[p.1]? = some (.cells cs t fz) ∧ Go.Ai.VRs (fun _ => Option.none) vs (cs.toList.take vs.length) := by
  obtain ⟨ps, hv, _⟩ := (show laidMet Tryd.prog Rows.scoreKnownRow.laid W from hL)
  intro p hp
  simp only [scoreKnown_gs, List.mem_cons, List.not_mem_nil, or_false] at hp
  subst hp
  exact ⟨by decide, _, rfl, Go.Ai.laid_cells (name := "aloeswood/score.states") Tryd.underlying170 (.inr Tryd.underlying9) (by kernel_rfl) (by kernel_rfl) (by kernel_rfl) (by kernel_rfl) hv (.tail _ (.tail _ (.tail _ (.head _))))⟩

theorem scoreKnown_says : Go.Ai.isTrue (Go.Ai.ev (Go.Ai.orO (Go.Ai.oracle []) Go.Ai.AwScore.O2) Go.Ai.AwScoreK.FT 100000 (.call (.fn 4 [] []) [] (Go.Ai.glbH 9 scoreKnown_gs))) = true := by kernel_rfl

theorem scoreKnown_walk (w : World) (hL : laidMetH Tryd.prog Rows.scoreKnownRow.laid w) : Calls Tryd.prog 4 #[] w fun e w' => e = .returned (.bool true) ∧ Go.Ai.Stays w w' := by
  obtain ⟨h1, h2, h3⟩ := Go.Ai.glb_start (Go.Ai.ckRel Go.Ai.AwScore.tt) w 9 scoreKnown_gs (scoreKnown_glob hL)
  exact Go.Ai.closed_soundH Go.Ai.AwScore.hT Go.Ai.AwScore.hm ((Go.Ai.AllKnown.ok (.nil)).or Go.Ai.AwScore.hO2) Go.Ai.AwScoreK.FT Go.Ai.AwScore.hFT h1 h2 h3 scoreKnown_says

theorem scoreKnown_contract (H : Type) (enc : TypeId × Value → H) (W : World) (base : Nat) (args : Array Value) (ds gs : List (DataW H)) (before : List MemPlace)
    (hval : ∀ (j : Nat) t v, Tryd.f4.params[j]? = some t → args[j]? = some v → Value.okWide Tryd.prog W .any base t v)
    (hW : DataW.Whole enc Tryd.prog Tryd.f4.params.toList Rows.scoreKnownSpec.vars false W args.toList ds gs before)  (hL : laidMetH Tryd.prog Rows.scoreKnownRow.laid W) :
    Calls Tryd.prog 4 args W fun e W' => ∃ v, e = .returned v ∧ Rows.scoreKnownSpec.post enc Tryd.prog Tryd.f4 false true false false W args v W' := by
  have hW' := hW
  obtain ⟨p, q, hA0, hV, rfl, hfz, hnd⟩ := hW
  have hA : DataW.TrodAll enc Tryd.prog W 0 (fun _ => true) true Tryd.f4.params.toList args.toList ds p := hA0
  rw [Tryd.params4] at hA hval
  obtain ⟨hargs, rfl, rfl⟩ := trodAll_nil hA
  obtain rfl : args = #[] := by cases args; simp_all
  obtain ⟨rfl, rfl⟩ := trodVars_none hV
  clear hA0
  simp only [List.append_nil] at hW'
  refine (scoreKnown_walk W hL).mono fun e W' ⟨he, hg⟩ => ?_
  subst he
  exact ⟨_, rfl, Go.Ai.post_of_stays (pa := []) (pv := []) hW' (fun _ _ _ => (trodAll_cons_mk (shut_bool Tryd.underlying4 _) trodAll_mk0)) (fun sp _ => trodAll_mk0) (fun _ _ => rfl) rfl
    hg (ok_one (by kernel_rfl) rfl (okWide_bool_mk Tryd.underlying4 _))⟩

/-- A world for the witness: the settled one, the listed variables holding what their initialisers lay. -/
noncomputable def scoreKnown_world (os : Os) : World :=
  { World.holding Tryd.prog os ⟨#[], #[], []⟩ with heap := (((((World.holding Tryd.prog os ⟨#[], #[], []⟩).heap.modify 7 fun
      | .cells _ t frozen => .cells #[.int .u8 0, .int .u8 1, .int .u8 28, .int .u8 2, .int .u8 29, .int .u8 14, .int .u8 24, .int .u8 3, .int .u8 30, .int .u8 22, .int .u8 20, .int .u8 15, .int .u8 25, .int .u8 17, .int .u8 4, .int .u8 8, .int .u8 31, .int .u8 27, .int .u8 13, .int .u8 23, .int .u8 21, .int .u8 19, .int .u8 16, .int .u8 7, .int .u8 26, .int .u8 12, .int .u8 18, .int .u8 6, .int .u8 11, .int .u8 5, .int .u8 10, .int .u8 9] t frozen
      | o => o).modify 8 fun
      | .cells _ t frozen => .cells #[.int .u8 0, .int .u8 1, .int .u8 56, .int .u8 2, .int .u8 57, .int .u8 49, .int .u8 28, .int .u8 3, .int .u8 61, .int .u8 58, .int .u8 42, .int .u8 50, .int .u8 38, .int .u8 29, .int .u8 17, .int .u8 4, .int .u8 62, .int .u8 47, .int .u8 59, .int .u8 36, .int .u8 45, .int .u8 43, .int .u8 51, .int .u8 22, .int .u8 53, .int .u8 39, .int .u8 33, .int .u8 30, .int .u8 24, .int .u8 18, .int .u8 12, .int .u8 5, .int .u8 63, .int .u8 55, .int .u8 48, .int .u8 27, .int .u8 60, .int .u8 41, .int .u8 37, .int .u8 16, .int .u8 46, .int .u8 35, .int .u8 44, .int .u8 21, .int .u8 52, .int .u8 32, .int .u8 23, .int .u8 11, .int .u8 54, .int .u8 26, .int .u8 40, .int .u8 15, .int .u8 34, .int .u8 20, .int .u8 31, .int .u8 10, .int .u8 25, .int .u8 14, .int .u8 19, .int .u8 9, .int .u8 13, .int .u8 8, .int .u8 7, .int .u8 6] t frozen
      | o => o).modify 1 fun
      | .cells _ t frozen => .cells #[.int .u64 1, .int .u64 10, .int .u64 100, .int .u64 1000, .int .u64 10000, .int .u64 100000, .int .u64 1000000, .int .u64 10000000, .int .u64 100000000, .int .u64 1000000000, .int .u64 10000000000, .int .u64 100000000000, .int .u64 1000000000000, .int .u64 10000000000000, .int .u64 100000000000000, .int .u64 1000000000000000, .int .u64 10000000000000000, .int .u64 100000000000000000, .int .u64 1000000000000000000, .int .u64 10000000000000000000] t frozen
      | o => o).modify 0 fun
      | .cells _ t frozen => .cells #[.string ⟨#[]⟩, .string ⟨#[111, 112, 101, 110]⟩, .string ⟨#[112, 97, 117, 115, 101, 100]⟩, .string ⟨#[99, 108, 111, 115, 101, 100]⟩, .string ⟨#[115, 104, 111, 119, 110]⟩] t frozen
      | o => o) }
theorem scoreKnown_met (os : Os) : laidMet Tryd.prog Rows.scoreKnownRow.laid ((scoreKnown_world os).forCall (fun _ _ => 0) ⟨#[], #[], []⟩).memory :=
  laidMet_of_run' 8 (by kernel_rfl) (by kernel_rfl)
theorem scoreKnown_reads (os : Os) {H : Type} (enc : TypeId × Value → H) : ∃ places, DataW.whole enc Tryd.prog ((scoreKnown_world os).forCall (fun _ _ => 0) ⟨#[], #[], []⟩).memory Tryd.f4.params.toList Rows.scoreKnownSpec.vars false (#[] : Array Value).toList 8 = some ([], [], places) :=
  ⟨[], by kernel_rfl⟩

theorem scoreKnown_lifted (os : Os) (started : os.Started) (H : Type) (enc : TypeId × Value → H) (F : Stop.Interp) :
    ReturnsInHanded {} Tryd.checked os 4 .any ((OpenSpec.ofChange Rows.scoreKnownSpec).preRow enc Tryd.prog Tryd.f4 Rows.scoreKnownRow.domain false Rows.scoreKnownRow.laid) (((OpenSpec.ofChange Rows.scoreKnownSpec).at F).post enc Tryd.prog Tryd.f4 false true false false) := by
  obtain ⟨places, hx⟩ := scoreKnown_reads os enc
  refine returnsInHanded_of_row (C := Tryd.checked) (s := OpenSpec.ofChange Rows.scoreKnownSpec) scoreKnown_own started (by kernel_rfl) Tryd.func4
    (witness_row_at (enc := enc) (C := Tryd.checked) false (scoreKnown_world os) #[] rfl (by kernel_rfl) (by kernel_rfl) (by kernel_rfl)
      (OpenSpec.preRow_of_cond 8 hx (by kernel_rfl) (fun k hk => by cases hk) (by kernel_rfl) (scoreKnown_met os))) ?_
  intro W base args ds gs before hval hW _ _ _ hL _ _
  exact scoreKnown_contract H enc W base args ds gs before hval hW hL

theorem scoreKnown_said : Rows.ScoreKnownSaid :=
  OpenClaim.holds_of_cond 4 Tryd.f4 rfl rfl rfl rfl rfl rfl rfl ⟨rfl, rfl, rfl, rfl, rfl⟩ rfl rfl rfl rfl rfl (by kernel_rfl) Tryd.func4 (by kernel_rfl)
    (of_decide_eq_true (by kernel_rfl)) (by unfold Func.isWrapper; first | (rw [if_pos (by decide +kernel)]; kernel_rfl) | (rw [if_neg (by decide +kernel)]; exact ⟨rfl, rfl⟩))
    (fun os started H enc _ F => by rw [OpenClaim.pre_eq_preRow]; exact scoreKnown_lifted os started H enc F)

theorem scoreKnown_holds : Rows.ScoreKnownCardSaid :=
  Claim7.holds_tied_plain_at .later [] _ _ _ _ scoreKnown_said (fun _ h => by cases h) (by kernel_rfl) (fun _ h => by cases h) scoreKnown_row_tie rfl ⟨rfl, rfl⟩ (by kernel_rfl) rfl
    (fun f fn hf hfn => by
      obtain rfl : f = 4 := Option.some.inj ((show Tryd.prog.funcNamed "aloeswood/aloeswoodlaw03.ScoreKnown" = some 4 by kernel_rfl).symm.trans hf) |>.symm
      obtain rfl : fn = Tryd.f4 := (Option.some.inj (Tryd.func4.symm.trans hfn)).symm
      exact ⟨by kernel_rfl, fun j t ht => by
        rw [Tryd.params4] at ht
        simp at ht⟩)
    (by kernel_rfl)
end Go.Proofs.YtmkndicbddahgaaDoor
