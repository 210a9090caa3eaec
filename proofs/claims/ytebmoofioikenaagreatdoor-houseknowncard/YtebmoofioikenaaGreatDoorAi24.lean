/- The type table of a program, and the check of its functions. -/
import Derived.Test.YtebmoofioikenaaGreatDoorAi22
import Derived.Test.YtebmoofioikenaaGreatDoorAi23
namespace Go.Ai
open Go

/-- The type table, taken from the program; ks tells which types are compared. -/
def ttOf (P : Program) (ks : Nat → Option (Bool × List Nat)) : TT := fun t =>
  match P.underlying t, P.info? t with
  | some d, some i => some { desc := d, size := i.size, bytes := i.bytes, zero := i.zero, key := ks t }
  | _, _ => none

theorem ttOf_ok {P : Program} {ks : Nat → Option (Bool × List Nat)} (hk : ∀ t p, ks t = some p → KT P t p.1 p.2) : TTok (ttOf P ks) P := by
  intro t s h
  unfold ttOf at h
  cases hu : P.underlying t with
  | none => rw [hu] at h; cases h
  | some d =>
    cases hi : P.info? t with
    | none => rw [hu, hi] at h; cases h
    | some i =>
      rw [hu, hi] at h
      cases h
      exact ⟨rfl, ⟨i, rfl, rfl, rfl, rfl⟩, fun p hp => hk t p hp⟩
end Go.Ai
