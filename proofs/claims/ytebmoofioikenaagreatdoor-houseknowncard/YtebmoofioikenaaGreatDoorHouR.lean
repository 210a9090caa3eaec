/-
  The law aloeswoodlaw10.HouseKnown returns true. No condition: it has no argument.
-/
import Derived.Test.YtebmoofioikenaaGreatDoorCards
import Derived.Test.YtebmoofioikenaaGreatDoorTie
import Derived.Test.YtebmoofioikenaaGreatDoorHouO3
import Derived.Test.YtebmoofioikenaaGreatDoorHouJ
import Derived.Test.YtebmoofioikenaaGreatDoorAi30
import Derived.WalkKit
import Derived.ProofKit
import Derived.OpenShut
import Derived.Deep.DeepHandedRow
import Derived.Deep.DeepWitnessRowRef
import Derived.Lay
import Derived.MakeChecks
import Derived.Lib.LaidTab
namespace Go.Proofs.YtebmoofioikenaaGreatDoor
open Go.ChangeShapes Go.WideShapes Go.ChangeAt Go.RowKit
set_option linter.unusedVariables false
set_option maxRecDepth 100000
set_option Elab.async false

theorem houseKnown_own : ownKnob Tryz.prog.godebug = Option.none := by kernel_rfl

noncomputable def houseKnown_gs : List (Nat × Go.Ai.ABlk) := [(1, .cells true [.str [], .str [115, 117, 114, 101], .str [110, 101, 118, 101, 114], .str [111, 112, 101, 110]] 1), (2, .cells true [.int .u64 1, .int .u64 10, .int .u64 100, .int .u64 1000, .int .u64 10000, .int .u64 100000, .int .u64 1000000, .int .u64 10000000, .int .u64 100000000, .int .u64 1000000000, .int .u64 10000000000, .int .u64 100000000000, .int .u64 1000000000000, .int .u64 10000000000000, .int .u64 100000000000000, .int .u64 1000000000000000, .int .u64 10000000000000000, .int .u64 100000000000000000, .int .u64 1000000000000000000, .int .u64 10000000000000000000] 1), (5, .cells true [.int .u8 0, .int .u8 1, .int .u8 28, .int .u8 2, .int .u8 29, .int .u8 14, .int .u8 24, .int .u8 3, .int .u8 30, .int .u8 22, .int .u8 20, .int .u8 15, .int .u8 25, .int .u8 17, .int .u8 4, .int .u8 8, .int .u8 31, .int .u8 27, .int .u8 13, .int .u8 23, .int .u8 21, .int .u8 19, .int .u8 16, .int .u8 7, .int .u8 26, .int .u8 12, .int .u8 18, .int .u8 6, .int .u8 11, .int .u8 5, .int .u8 10, .int .u8 9] 1)]
theorem houseKnown_glob {W : World} (hL : laidMetH Tryz.prog Rows.houseKnownRow.laid W) : ∀ p ∈ houseKnown_gs, p.1 < 9 ∧ ∃ vs, p.2 = .cells true vs 1 ∧ ∃ cs t fz, W.heap[p.1]? = some (.cells cs t fz) ∧ Go.Ai.VRs (fun _ => Option.none) vs (cs.toList.take vs.length) := by
  rw [MakeChecks.laidMetH_plain _ _ _ (by kernel_rfl)] at hL
  obtain ⟨ps, hv, _⟩ := hL
  intro p hp
  simp only [houseKnown_gs, List.mem_cons, List.not_mem_nil, or_false] at hp
  rcases hp with rfl | rfl | rfl
  · exact ⟨by decide, _, rfl, Go.Ai.laid_cells (name := "aloeswood/house.verdicts") Tryz.underlying217 (.inr Tryz.underlying9) (by kernel_rfl) (by kernel_rfl) (by kernel_rfl) (by kernel_rfl) hv (.tail _ (.tail _ (.tail _ (.tail _ (.tail _ (.tail _ (.head _)))))))⟩
  · exact ⟨by decide, _, rfl, Go.Ai.laid_cells (name := "internal/strconv.uint64pow10") Tryz.underlying223 (.inl ⟨_, Tryz.underlying177⟩) (by kernel_rfl) (by kernel_rfl) (by kernel_rfl) (by kernel_rfl) hv (.tail _ (.tail _ (.head _)))⟩
  · exact ⟨by decide, _, rfl, Go.Ai.laid_cells (name := "math/bits.deBruijn32tab") Tryz.underlying332 (.inl ⟨_, Tryz.underlying5⟩) (by kernel_rfl) (by kernel_rfl) (by kernel_rfl) (by kernel_rfl) hv (.head _)⟩

theorem houseKnown_says : Go.Ai.isTrue (Go.Ai.ev (Go.Ai.orO (Go.Ai.oracle [Go.Ai.AwHouE.e1, Go.Ai.AwHouE.e2, Go.Ai.AwHouE.e3, Go.Ai.AwHouE.e4, Go.Ai.AwHouE.e5, Go.Ai.AwHouE.e6, Go.Ai.AwHouE.e7, Go.Ai.AwHouE.e8]) Go.Ai.AwHou.O2) Go.Ai.AwHouK.FT 100000 (.call (.fn 3 [] []) [] (Go.Ai.glbH 9 houseKnown_gs))) = true := by kernel_rfl

theorem houseKnown_walk (w : World) (hL : laidMetH Tryz.prog Rows.houseKnownRow.laid w) : Calls Tryz.prog 3 #[] w fun e w' => e = .returned (.bool true) ∧ Go.Ai.Stays w w' := by
  obtain ⟨h1, h2, h3⟩ := Go.Ai.glb_start (Go.Ai.ckRel Go.Ai.AwHou.tt) w 9 houseKnown_gs (houseKnown_glob hL)
  exact Go.Ai.closed_soundH Go.Ai.AwHou.hT Go.Ai.AwHou.hm ((Go.Ai.AllKnown.ok (.cons Go.Ai.AwHou.k1 <| .cons Go.Ai.AwHou.k2 <| .cons Go.Ai.AwHou.k3 <| .cons Go.Ai.AwHou.k4 <| .cons Go.Ai.AwHou.k5 <| .cons Go.Ai.AwHou.k6 <| .cons Go.Ai.AwHou.k7 <| .cons Go.Ai.AwHou.k8 <| .nil)).or Go.Ai.AwHou.hO2) Go.Ai.AwHouK.FT Go.Ai.AwHou.hFT h1 h2 h3 houseKnown_says

theorem houseKnown_contract (H : Type) (enc : TypeId × Value → H) (W : World) (base : Nat) (args : Array Value) (ds gs : List (DataW H)) (before : List MemPlace)
    (hval : ∀ (j : Nat) t v, Tryz.f3.params[j]? = some t → args[j]? = some v → Value.okWide Tryz.prog W .any base t v)
    (hW : DataW.Whole enc Tryz.prog Tryz.f3.params.toList Rows.houseKnownSpec.vars false W args.toList ds gs before)  (hL : laidMetH Tryz.prog Rows.houseKnownRow.laid W) :
    Calls Tryz.prog 3 args W fun e W' => ∃ v, e = .returned v ∧ Rows.houseKnownSpec.post enc Tryz.prog Tryz.f3 false true false false W args v W' := by
  have hW' := hW
  obtain ⟨p, q, hA0, hV, rfl, hfz, hnd⟩ := hW
  have hA : DataW.TrodAll enc Tryz.prog W 0 (fun _ => true) true Tryz.f3.params.toList args.toList ds p := hA0
  rw [Tryz.params3] at hA hval
  obtain ⟨hargs, rfl, rfl⟩ := trodAll_nil hA
  obtain rfl : args = #[] := by cases args; simp_all
  obtain ⟨rfl, rfl⟩ := trodVars_none hV
  clear hA0
  simp only [List.append_nil] at hW'
  refine (houseKnown_walk W hL).mono fun e W' ⟨he, hg⟩ => ?_
  subst he
  exact ⟨_, rfl, Go.Ai.post_of_stays (pa := []) (pv := []) hW' (fun _ _ _ => (trodAll_cons_mk (shut_bool Tryz.underlying4 _) trodAll_mk0)) (fun sp _ => trodAll_mk0) (fun _ _ => rfl) rfl
    hg (ok_one (by kernel_rfl) rfl (okWide_bool_mk Tryz.underlying4 _))⟩

/-- A world for the witness: the settled one, the listed variables holding what their initialisers lay. -/
noncomputable def houseKnown_world (os : Os) : World := World.laidAll Tryz.prog os Rows.houseKnownRow.laid
theorem houseKnown_met (os : Os) : laidMetH Tryz.prog Rows.houseKnownRow.laid ((houseKnown_world os).forCall (fun _ _ => 0) ⟨#[], #[], []⟩).memory := by
  rw [MakeChecks.laidMetH_plain _ _ _ (by kernel_rfl)]
  exact laidMet_laidAll _ (by kernel_rfl) (by kernel_rfl)
theorem houseKnown_reads (os : Os) {H : Type} (enc : TypeId × Value → H) : ∃ places, DataW.whole enc Tryz.prog ((houseKnown_world os).forCall (fun _ _ => 0) ⟨#[], #[], []⟩).memory Tryz.f3.params.toList Rows.houseKnownSpec.vars false (#[] : Array Value).toList 8 = some ([], [], places) :=
  ⟨[], by kernel_rfl⟩

theorem houseKnown_lifted (os : Os) (started : os.Started) (H : Type) (enc : TypeId × Value → H) (F : Stop.Interp) :
    ReturnsInHanded {} Tryz.checked os 3 .any ((OpenSpec.ofChange Rows.houseKnownSpec).preRow enc Tryz.prog Tryz.f3 Rows.houseKnownRow.domain false Rows.houseKnownRow.laid) (((OpenSpec.ofChange Rows.houseKnownSpec).at F).post enc Tryz.prog Tryz.f3 false true false false) := by
  obtain ⟨places, hx⟩ := houseKnown_reads os enc
  refine returnsInHanded_of_row (C := Tryz.checked) (s := OpenSpec.ofChange Rows.houseKnownSpec) houseKnown_own started (by kernel_rfl) Tryz.func3
    (witness_row_atRef (enc := enc) (C := Tryz.checked) false (houseKnown_world os) #[] (World.laidAll_os _ _ _) (by kernel_rfl) (by kernel_rfl) (by kernel_rfl)
      (OpenSpec.preRow_of_cond 8 hx (by kernel_rfl) (fun k hk => by cases hk) (by kernel_rfl) (houseKnown_met os))) ?_
  intro W base args ds gs before hval hW _ _ _ hL _ _
  exact houseKnown_contract H enc W base args ds gs before hval hW hL

theorem houseKnown_said : Rows.HouseKnownSaid :=
  OpenClaim.holds_of_cond 3 Tryz.f3 rfl rfl rfl rfl rfl rfl rfl ⟨rfl, rfl, rfl, rfl, rfl⟩ rfl rfl rfl rfl rfl houseKnown_named Tryz.func3 houseKnown_closed
    (of_decide_eq_true (by kernel_rfl)) (by unfold Func.isWrapper; first | (rw [if_pos (by decide +kernel)]; kernel_rfl) | (rw [if_neg (by decide +kernel)]; exact ⟨rfl, rfl⟩))
    (fun os started H enc _ F => by rw [OpenClaim.pre_eq_preRow]; exact houseKnown_lifted os started H enc F)

theorem houseKnown_holds : Rows.HouseKnownCardSaid :=
  Claim7.holds_tied_plain_at .later [] _ _ _ _ houseKnown_said (fun _ h => by cases h) houseKnown_text (fun _ h => by cases h) houseKnown_row_tie rfl ⟨rfl, rfl⟩ houseKnown_main rfl
    (fun f fn hf hfn => by
      obtain rfl : f = 3 := Option.some.inj (houseKnown_named.symm.trans hf) |>.symm
      obtain rfl : fn = Tryz.f3 := (Option.some.inj (Tryz.func3.symm.trans hfn)).symm
      exact ⟨houseKnown_looks, fun j t ht => by
        rw [Tryz.params3] at ht
        simp at ht⟩)
    houseKnown_goes
end Go.Proofs.YtebmoofioikenaaGreatDoor
