/- A run on a part of the heap is a run on the whole. -/
import Derived.Test.YtebmoofioikenaaGreatDoorAi24
namespace Go.Ai
open Go

structure Sub (Hs H : AH) : Prop where
  next : Hs.next = H.next
  perm : Hs.lim = H.lim ∧ Hs.exc = H.exc ∧ Hs.hidAt = H.hidAt ∧ Hs.hid = H.hid
  blk : ∀ b x, Hs.blk.get b = some x → H.blk.get b = some x

section
variable {CR : CRel} {B : Nat} {H Hs R H' : AH} {μ μ' : Mu} {w w' : World}

theorem Sub.hidden (s : Sub Hs H) (b : Nat) : Hs.hidden b ↔ H.hidden b := by unfold AH.hidden; rw [s.perm.2.2.1, s.perm.2.2.2]
theorem Sub.view (s : Sub Hs H) {b : Nat} {x : ABlk} (h : Hs.view b = some x) : H.view b = some x := by
  obtain ⟨h1, h2⟩ := view_iff.1 h
  exact view_iff.2 ⟨fun g => h1 ((s.hidden b).2 g), s.blk b x h2⟩
theorem Sub.canW (s : Sub Hs H) {b : Nat} (h : Hs.canW b) : H.canW b := by
  obtain ⟨⟨x, hx, hr⟩, hm⟩ := h
  exact ⟨⟨x, s.view hx, hr⟩, by unfold AH.may at hm ⊢; rw [← s.perm.1, ← s.perm.2.1]; exact hm⟩

theorem Sub.top (s : Sub Hs H) (h : H.topOk) : Hs.topOk := by
  intro b hb
  cases hg : Hs.blk.get b with
  | none => rfl
  | some x =>
    have := s.blk b x hg
    rw [h b (by rw [← s.next]; exact hb)] at this
    cases this

theorem HR.sub (h : HR CR B H μ w) (s : Sub Hs H) : HR CR B Hs μ w :=
  ⟨fun b e x hb hv => h.blk b e x hb (s.view hv), fun b b' e e' x x' hne h1 h2 v1 v2 hro => h.sep b b' e e' x x' hne h1 h2 (s.view v1) (s.view v2) hro, fun b e x hb hv hro => h.low b e x hb (s.view hv) hro, h.ins,
   s.top h.top,
   by rw [s.perm.1, s.next]; exact h.lim, by rw [s.perm.2.2.1, s.perm.2.2.2, s.next]; exact h.hid, by rw [s.perm.2.1, s.next]; exact h.exc, h.base, fun b x hv hg => h.gl b x (s.view hv) hg⟩

/-- The heap behind: each block is the small run's, or one that the small run did not have. -/
structure Behind2 (H Hs R H' : AH) : Prop where
  next : H'.next = R.next
  perm : H'.lim = H.lim ∧ H'.exc = H.exc ∧ H'.hidAt = H.hidAt ∧ H'.hid = H.hid
  blk : ∀ b x, H'.blk.get b = some x → R.blk.get b = some x ∨ (b < H.next ∧ Hs.blk.get b = none ∧ H.blk.get b = some x)

theorem frame (h : HR CR B H μ w) (s : Sub Hs H) (hf : Fresh μ H R) (h' : HR CR B R μ' w') (E : Ext Hs μ w R μ' w') (b2 : Behind2 H Hs R H') : HR CR B H' μ' w' ∧ Ext H μ w H' μ' w' := by
  have hidR : ∀ b, R.hidden b ↔ H'.hidden b := fun b => by
    unfold AH.hidden; rw [E.perm.2.2.1, E.perm.2.2.2, b2.perm.2.2.1, b2.perm.2.2.2, s.perm.2.2.1, s.perm.2.2.2]
  have hidH : ∀ b, H.hidden b ↔ H'.hidden b := fun b => by unfold AH.hidden; rw [b2.perm.2.2.1, b2.perm.2.2.2]
  -- a block behind
  have two : ∀ b x, H'.view b = some x → R.view b = some x ∨ (b < H.next ∧ Hs.blk.get b = none ∧ H.view b = some x) := fun b x hv => by
    obtain ⟨v1, v2⟩ := view_iff.1 hv
    rcases b2.blk b x v2 with g | ⟨g1, g2, g3⟩
    · exact .inl (view_iff.2 ⟨fun k => v1 ((hidR b).1 k), g⟩)
    · exact .inr ⟨g1, g2, view_iff.2 ⟨fun k => v1 ((hidH b).1 k), g3⟩⟩
  have oldMu : ∀ b e, b < H.next → μ' b = some e → μ b = some e := fun b e hb hm => by
    rcases E.new b e hm with g | ⟨_, g, _⟩
    · exact g
    · rw [s.next] at g; omega
  have canNe : ∀ b, Hs.blk.get b = none → ∀ b₀, Hs.canW b₀ → b₀ ≠ b := fun b hb b₀ hw => by
    rintro rfl
    obtain ⟨⟨x, hx, _⟩, _⟩ := hw
    rw [(view_iff.1 hx).2] at hb; cases hb
  -- an untouched block and one of the small run's
  have apart : ∀ b b' e e' x x', R.view b = some x → b' < H.next → Hs.blk.get b' = none → H.view b' = some x' → μ' b = some e → μ' b' = some e' → b ≠ b' → (x.ro = false ∨ x'.ro = false) → e.c ≠ e'.c := fun b b' e e' x x' v1 l2 n2 v2 m1 m2 hne hro => by
    have m2' := oldMu b' e' l2 m2
    cases hm : μ b with
    | none =>
      rcases E.img b e m1 hm with g | ⟨b₀, e₀, k1, k2, k3⟩
      · have := h.ins b' e' m2'; omega
      · rw [← k2]
        obtain ⟨⟨y, hy, hyr⟩, _⟩ := k3
        exact h.sep b₀ b' e₀ e' y x' (canNe b' n2 b₀ ⟨⟨y, hy, hyr⟩, by assumption⟩) k1 m2' (s.view hy) v2 hyr
    | some e₁ =>
      have : e₁ = e := by have := E.le b e₁ hm; rw [m1] at this; cases this; rfl
      subst this
      by_cases hb : b < Hs.next
      · obtain ⟨⟨y, hy, hyr⟩, _⟩ := E.oldv b x hb v1
        rcases hro with hro | hro
        · exact h.sep b b' e₁ e' y x' hne hm m2' (s.view hy) v2 (hyr hro)
        · exact fun he => h.sep b' b e' e₁ x' y (Ne.symm hne) m2' hm v2 (s.view hy) hro he.symm
      · have hbR : b < R.next := h'.lt_of_view v1
        have := hf b (by rw [← s.next]; omega) hbR
        rw [hm] at this; cases this
  refine ⟨⟨fun b e x hb hv => ?_, fun b b' e e' x x' hne h1 h2 v1 v2 hro => ?_, fun b e x hb hv hro => ?_, h'.ins, fun b hb => ?_, ?_, ?_, ?_, h'.base, fun b x hv hg => ?_⟩, ?_⟩
  · rcases two b x hv with g | ⟨g1, g2, g3⟩
    · exact h'.blk b e x hb g
    · have m := oldMu b e g1 hb
      refine ((h.blk b e x m g3).mono E.le).heap (E.keep e.c (h.ins b e m) fun b₀ e₀ hb₀ he hw => ?_)
      have hne := canNe b g2 b₀ hw
      obtain ⟨⟨y, hy, hyr⟩, _⟩ := hw
      exact h.sep b₀ b e₀ e y x hne hb₀ m (s.view hy) g3 hyr he
  · rcases two b x v1 with g | ⟨g1, g2, g3⟩
    · rcases two b' x' v2 with k | ⟨k1, k2, k3⟩
      · exact h'.sep b b' e e' x x' hne h1 h2 g k hro
      · exact apart b b' e e' x x' g k1 k2 k3 h1 h2 hne (.inl hro)
    · rcases two b' x' v2 with k | ⟨k1, k2, k3⟩
      · exact fun he => apart b' b e' e x' x k g1 g2 g3 h2 h1 (Ne.symm hne) (.inr hro) he.symm
      · exact h.sep b b' e e' x x' hne (oldMu b e g1 h1) (oldMu b' e' k1 h2) g3 k3 hro
  · rcases two b x hv with g | ⟨g1, g2, g3⟩
    · exact h'.low b e x hb g hro
    · exact h.low b e x (oldMu b e g1 hb) g3 hro
  · cases hg : H'.blk.get b with
    | none => rfl
    | some x =>
      rcases b2.blk b x hg with g | ⟨g1, _, _⟩
      · rw [h'.top b (by rw [← b2.next]; exact hb)] at g; cases g
      · have := E.next; rw [s.next] at this; rw [b2.next] at hb; omega
  · rw [b2.perm.1, b2.next]; have := h.lim; have := E.next; rw [s.next] at this; omega
  · rw [b2.perm.2.2.1, b2.perm.2.2.2, b2.next]
    have := E.next; rw [s.next] at this
    exact ⟨Nat.le_trans h.hid.1 this, fun b hb => Nat.lt_of_lt_of_le (h.hid.2 b hb) this⟩
  · rw [b2.perm.2.1, b2.next]
    have := E.next; rw [s.next] at this
    exact fun b hb => Nat.lt_of_lt_of_le (h.exc b hb) this
  · rcases two b x hv with g | ⟨_, _, g3⟩
    · exact h'.gl b x g hg
    · obtain ⟨e, e1, e2⟩ := h.gl b x g3 hg
      exact ⟨e, E.le b e e1, e2⟩
  · refine ⟨E.le, fun b e hb => ?_, E.size, fun c hc hno => E.keep c hc fun b e hb he hw => hno b e hb he (s.canW hw), fun b e hb hn => ?_, by rw [b2.next, ← s.next]; exact E.next, fun b hb hw => ?_, fun b x hb hv => ?_, E.os, b2.perm⟩
    · rcases E.new b e hb with g | ⟨g1, g2, g3⟩
      · exact .inl g
      · exact .inr ⟨g1, by rw [← s.next]; exact g2, by rw [b2.next]; exact g3⟩
    · rcases E.img b e hb hn with g | ⟨b₀, e₀, k1, k2, k3⟩
      · exact .inl g
      · exact .inr ⟨b₀, e₀, k1, k2, s.canW k3⟩
    · obtain ⟨⟨x, hx, hr⟩, hm⟩ := hw
      have hm' : H.may b = true := by rw [← may_perm b2.perm]; exact hm
      rcases two b x hx with g | ⟨_, _, g3⟩
      · obtain ⟨⟨y, hy, hyr⟩, _⟩ := E.oldv b x (by rw [s.next]; exact hb) g
        exact ⟨⟨y, s.view hy, hyr hr⟩, hm'⟩
      · exact ⟨⟨x, g3, hr⟩, hm'⟩
    · rcases two b x hv with g | ⟨_, _, g3⟩
      · obtain ⟨⟨y, hy, hyr⟩, hk⟩ := E.oldv b x (by rw [s.next]; exact hb) g
        exact ⟨⟨y, s.view hy, hyr⟩, fun hno => s.view (hk fun hw => hno (s.canW hw))⟩
      · exact ⟨⟨x, g3, id⟩, fun _ => g3⟩
end
end Go.Ai
