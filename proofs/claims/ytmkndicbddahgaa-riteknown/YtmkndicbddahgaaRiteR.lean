/-
  The law aloeswoodlaw06.RiteKnown returns true. No condition: it has no argument.
-/
import Derived.Test.YtmkndicbddahgaaRows
import Derived.Test.YtmkndicbddahgaaRiteO3
import Derived.WalkKit
import Derived.ProofKit
import Derived.OpenShut
namespace Go.Proofs.Ytmkndicbddahgaa
open Go.ChangeShapes Go.WideShapes Go.ChangeAt Go.RowKit
set_option linter.unusedVariables false
set_option maxRecDepth 100000
set_option Elab.async false

theorem riteKnown_own : ownKnob Try.prog.godebug = Option.none := by kernel_rfl

theorem riteKnown_says : Go.Ai.yes (Go.Ai.oracle [Go.Ai.AwRiteE.e1, Go.Ai.AwRiteE.e3, Go.Ai.AwRiteE.e5, Go.Ai.AwRiteE.e7, Go.Ai.AwRiteE.e9, Go.Ai.AwRiteE.e25, Go.Ai.AwRiteE.e26]) Go.Ai.AwRiteK.FT 100000 3 0 = true := by kernel_rfl

theorem riteKnown_walk (w : World) : Calls Try.prog 3 #[] w fun e w' => e = .returned (.bool true) ∧ Grown w w' :=
  Go.Ai.closed_sound Go.Ai.AwRite.hT Go.Ai.AwRite.hm (Go.Ai.AllKnown.ok (.cons Go.Ai.AwRite.k1 <| .cons Go.Ai.AwRite.k3 <| .cons Go.Ai.AwRite.k5 <| .cons Go.Ai.AwRite.k7 <| .cons Go.Ai.AwRite.k9 <| .cons Go.Ai.AwRite.k25 <| .cons Go.Ai.AwRite.k26 <| .nil)) Go.Ai.AwRiteK.FT Go.Ai.AwRite.hFT riteKnown_says w

theorem riteKnown_contract (H : Type) (enc : TypeId × Value → H) (W : World) (base : Nat) (args : Array Value) (ds gs : List (DataW H)) (before : List MemPlace)
    (hval : ∀ (j : Nat) t v, Try.f3.params[j]? = some t → args[j]? = some v → Value.okWide Try.prog W .any base t v)
    (hW : DataW.Whole enc Try.prog Try.f3.params.toList Rows.riteKnownSpec.vars false W args.toList ds gs before) :
    Calls Try.prog 3 args W fun e W' => ∃ v, e = .returned v ∧ Rows.riteKnownSpec.post enc Try.prog Try.f3 false true false false W args v W' := by
  have hW' := hW
  obtain ⟨p, q, hA0, hV, rfl, hfz, hnd⟩ := hW
  have hA : DataW.TrodAll enc Try.prog W 0 (fun _ => true) true Try.f3.params.toList args.toList ds p := hA0
  rw [Try.params3] at hA hval
  obtain ⟨hargs, rfl, rfl⟩ := trodAll_nil hA
  obtain rfl : args = #[] := by cases args; simp_all
  obtain ⟨rfl, rfl⟩ := trodVars_none hV
  clear hA0
  simp only [List.append_nil] at hW'
  refine (riteKnown_walk W).mono fun e W' ⟨he, hg⟩ => ?_
  subst he
  exact ⟨_, rfl, post_of_same (pa := []) (pv := []) hW' (fun _ _ _ => (trodAll_cons_mk (shut_bool Try.underlying4 _) trodAll_mk0)) (fun sp _ => trodAll_mk0) (fun _ _ => rfl) rfl
    (hg.frame _) hg.2.1 (ok_one (by kernel_rfl) rfl (okWide_bool_mk Try.underlying4 _))⟩

theorem riteKnown_lifted (os : Os) (started : os.Started) (H : Type) (enc : TypeId × Value → H) :
    ReturnsInHanded {} Try.checked os 3 .any (Rows.riteKnownSpec.pre6 enc Try.prog Try.f3 Rows.riteKnownRow.domain false) (Rows.riteKnownSpec.post enc Try.prog Try.f3 false true false false) := by
  refine returnsInHanded_of_change (C := Try.checked) riteKnown_own started (by kernel_rfl) Try.func3
    (ChangeSpec.witness6 (enc := enc) (C := Try.checked) false ⟨#[], #[], []⟩ 8 (by kernel_rfl) (by kernel_rfl) (by kernel_rfl) (by kernel_rfl)) ?_
  intro W base args ds gs before hval hW _ _
  exact riteKnown_contract H enc W base args ds gs before hval hW

theorem riteKnown_holds : Rows.RiteKnownSaid :=
  OpenClaim.holds_of_wide 3 Try.f3 rfl rfl rfl rfl rfl rfl rfl ⟨rfl, rfl, rfl, rfl, rfl⟩ rfl rfl rfl rfl rfl (by kernel_rfl) Try.func3 (by kernel_rfl)
    (of_decide_eq_true (by kernel_rfl)) (by unfold Func.isWrapper; first | (rw [if_pos (by decide +kernel)]; kernel_rfl) | (rw [if_neg (by decide +kernel)]; exact ⟨rfl, rfl⟩))
    (fun os started H enc _ => riteKnown_lifted os started H enc)
end Go.Proofs.Ytmkndicbddahgaa
