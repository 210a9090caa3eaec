/- Chains of checked entries; a choice by number, taken apart. -/
import Derived.Test.YtebmoofioikenaaGreatDoorAi27
namespace Go.Ai
open Go

/-- The entry has been checked, with an oracle that is sound. -/
def Known (CR : CRel) (P : Program) (e : Ent) : Prop := ∃ O FT n, RecOK CR P (ev O FT n) ∧ entOK O FT n e = true
def AllKnown (CR : CRel) (P : Program) (es : List Ent) : Prop := ∀ e ∈ es, Known CR P e
theorem AllKnown.nil {CR : CRel} {P : Program} : AllKnown CR P [] := fun _ h => by cases h
theorem AllKnown.cons {CR : CRel} {P : Program} {e : Ent} {es : List Ent} (h : Known CR P e) (hs : AllKnown CR P es) : AllKnown CR P (e :: es) := fun x hx => by
  rcases List.mem_cons.1 hx with g | g
  · exact g ▸ h
  · exact hs x g
theorem AllKnown.ok {CR : CRel} {P : Program} {es : List Ent} (h : AllKnown CR P es) : OrOK CR P (oracle es) := oracle_ok h
noncomputable def orO (O O' : AV → List AV → AH → Option Res) (f : AV) (args : List AV) (H : AH) : Option Res := orElse2 (O f args H) (O' f args H)

theorem OrOK.or {CR : CRel} {P : Program} {O O' : AV → List AV → AH → Option Res} (h : OrOK CR P O) (h' : OrOK CR P O') : OrOK CR P (orO O O') :=
  ⟨fun v args H r hr => (orElse2_some hr).elim (h.ae v args H r) fun g => h'.ae v args H r g.2,
   fun hr => (orElse2_some hr).elim h.shape fun g => h'.shape g.2,
   fun hr => (orElse2_some hr).elim (fun g => h.call g) fun g => h'.call g.2⟩

theorem Known.of {tt : TT} {P : Program} (hT : TTok tt P) (hm : P.follows .mixedOrders = true) {FT : Nat → Option IFunc} (hFT : ∀ k fn, FT k = some fn → ∃ pf, P.funcs[k]? = some pf ∧ ckFn tt fn pf = true)
    {es : List Ent} (hs : AllKnown (ckRel tt) P es) {O' : AV → List AV → AH → Option Res} (hO : OrOK (ckRel tt) P O') {n : Nat} {e : Ent} (h : entOK (orO (oracle es) O') FT n e = true) : Known (ckRel tt) P e :=
  ⟨_, _, _, rec_sound hT hm (hs.ok.or hO) FT hFT n, h⟩

section
variable {α : Type} {Q : Nat → α → Prop} {k m : Nat} {a b : Option α} {v x : α}
theorem cb_lt (ha : a = some x → Q k x) (hb : b = some x → Q k x) (e : cond (Nat.blt k m) a b = some x) : Q k x := by
  cases h : Nat.blt k m <;> rw [h] at e
  · exact hb e
  · exact ha e
theorem cb_eq (h : Q m v) (e : cond (Nat.beq k m) (some v) none = some x) : Q k x := by
  cases g : Nat.beq k m <;> rw [g] at e
  · cases e
  · cases e; rw [Nat.eq_of_beq_eq_true g]; exact h
theorem cb_no (e : (none : Option α) = some x) : Q k x := by cases e
end
end Go.Ai
