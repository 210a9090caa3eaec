/- A function without arguments: what its evaluation says of the model. -/
import Derived.Test.YtmkndicbddahgaaAi21
import Derived.RowKit3
namespace Go.Ai
open Go

section
variable {tt : TT} {P : Program}

theorem HR.start (CR : CRel) (g : Nat) (W : World) : HR CR 0 (AH.start g) (fun _ => none) W :=
  ⟨fun _ _ _ h => (by cases h), fun _ _ _ _ _ _ _ h => (by cases h), fun _ _ _ h => (by cases h), fun _ _ h => (by cases h), fun _ _ => rfl, Nat.zero_le _, ⟨Nat.zero_le _, fun _ h => (by cases h)⟩, fun _ h => (by cases h), Nat.zero_le _⟩

theorem grown_of_ext {g : Nat} {H' : AH} {μ' : Mu} {W W' : World} (E : Ext (AH.start g) (fun _ => none) W H' μ' W') : RowKit.Grown W W' := by
  refine ⟨⟨E.os.1, E.os.2, fun i hi => ?_⟩, E.fz, E.size⟩
  rw [E.keep i hi fun b e h => by cases h]
  cases W.heap[i]? with
  | none => rfl
  | some o => cases o <;> simp

theorem closed_sound (hT : TTok tt P) (hm : P.follows .mixedOrders = true) {O : AV → List AV → AH → Option Res} (hO : OrOK (ckRel tt) P O) (FT : Nat → Option IFunc) (hFT : ∀ k fn, FT k = some fn → ∃ pf, P.funcs[k]? = some pf ∧ ckFn tt fn pf = true) {n f g : Nat} (h : yes O FT n f g = true) (W : World) :
    Calls P f #[] W fun e W' => e = .returned (.bool true) ∧ RowKit.Grown W W' := by
  unfold yes at h
  cases hr : ev O FT n (.call (.fn f [] []) [] (AH.start g)) with
  | none => rw [hr] at h; cases h
  | some r =>
    rw [hr] at h
    have hv : r.v = .bool true := by
      have h : isBool true r.v = true := h
      unfold isBool at h
      cases hrv : r.v <;> rw [hrv] at h <;> simp [AV.el] at h
      rename_i b; cases b
      · simp at h
      · rfl
    refine (callsIn_wide (n := 0)).1 (((rec_sound hT hm hO FT hFT n).call hr (HR.start (ckRel tt) g W) (vs := #[]) rfl (fun _ _ _ => rfl)).2 Fence.wide _ ⟨fun _ => trivial, rfl⟩ fun v w' μ' h1 h2 h3 => ?_)
    rw [hv] at h1
    exact ⟨by rw [show v = .bool true from h1], grown_of_ext h3⟩
end
end Go.Ai
