/- An oracle whose entries have been checked is sound. -/
import Derived.Test.YtebmoofioikenaaGreatDoorAi26
namespace Go.Ai
open Go

theorem ifb_false_iff {c x : Bool} : ifb c x false = true ↔ c = true ∧ x = true := by cases c <;> simp

theorem ifb_none_eq_some'_bool {c x : Bool} : ifb c false x = true ↔ c = false ∧ x = true := by cases c <;> simp

theorem asks_facts {e : Ent} {f : AV} {args : List AV} {H : AH} (h : asks e f args H = true) : f = .fn e.k [] [] ∧ H.next = e.next ∧ (H.lim = e.lim ∧ H.exc = e.exc ∧ H.hidAt = e.hidAt ∧ H.hid = e.hid) ∧ args = e.args ∧ ∀ p ∈ e.need, H.blk.get p.1 = some p.2 := by
  unfold asks at h
  simp only [ifb_false_iff] at h
  obtain ⟨h1, h2, h3, h4, h5, h6, h7, h8⟩ := h
  exact ⟨avEq_sound _ _ h1, by simpa using h2, ⟨by simpa using h3, natsEq_sound _ _ h4, by simpa using h5, natsEq_sound _ _ h6⟩, avEqs_sound _ _ h7, fun p hp => hasBlk_iff (allB_iff.1 h8 p hp)⟩

theorem ent_facts {O : AV → List AV → AH → Option Res} {FT : Nat → Option IFunc} {n : Nat} {e : Ent} (h : entOK O FT n e = true) : ∃ r, ev O FT n (.call (.fn e.k [] []) e.args (entH e)) = some r ∧ r.v = e.v ∧ r.H.next = e.next' ∧ e.next ≤ e.next' ∧
    (∀ b o, lk b e.upd = some o → b < e.next' ∧ (∀ x, o = some x → r.H.blk.get b = some x ∧ x.glb = false) ∧ (b < e.next → (∃ y, lk b e.need = some y ∧ y.ro = false) ∧ (entH e).may b = true ∧ ¬ (entH e).hidden b)) ∧
    (∀ b x, lk b e.need = some x → b < e.next ∧ (lk b e.upd = none → r.H.blk.get b = some x)) := by
  unfold entOK at h
  cases hr : ev O FT n (.call (.fn e.k [] []) e.args (entH e)) with
  | none => rw [hr] at h; cases h
  | some r =>
    rw [hr] at h
    have h : ifb (avEq r.v e.v) _ false = true := h
    simp only [ifb_false_iff] at h
    obtain ⟨h1, h2, h3, h4, h5⟩ := h
    refine ⟨r, rfl, avEq_sound _ _ h1, by simpa using h2, Nat.le_of_ble_eq_true h3, fun b o hb => ?_, fun b x hb => ?_⟩
    · have := allB_iff.1 h4 _ (lk_mem hb)
      rw [ifb_none_eq_some'_bool] at this
      obtain ⟨g0, this⟩ := this
      simp only [ifb_false_iff] at this
      obtain ⟨g1, g2, g3⟩ := this
      refine ⟨by have := Nat.le_of_ble_eq_true g1; omega, fun x hx => by subst hx; exact ⟨hasBlk_iff g2, g0⟩, fun hlt => ?_⟩
      rw [show Nat.blt b e.next = true from Nat.ble_eq_true_of_le hlt] at g3
      have g3 : and (!(roOf (lk b e.need))) (and ((entH e).may b) ((entH e).view b).isSome) = true := g3
      simp only [Bool.and_eq_true] at g3
      obtain ⟨g3, g4, g5⟩ := g3
      obtain ⟨vv, hvv⟩ := Option.isSome_iff_exists.1 g5
      refine ⟨?_, g4, (view_iff.1 hvv).1⟩
      cases hl : lk b e.need with
      | none => rw [hl] at g3; cases g3
      | some y =>
        rw [hl] at g3
        have g3 : (!y.ro) = true := g3
        exact ⟨y, rfl, by simpa using g3⟩
    · have := allB_iff.1 h5 _ (lk_mem hb)
      simp only [ifb_false_iff] at this
      obtain ⟨g1, g2⟩ := this
      refine ⟨by have := Nat.le_of_ble_eq_true g1; omega, fun hu => ?_⟩
      have g2 : ifb (lk b e.upd).isSome true (hasBlk r.H b x) = true := g2
      rw [hu] at g2
      exact hasBlk_iff g2

section
variable {CR : CRel} {P : Program} {O : AV → List AV → AH → Option Res} {FT : Nat → Option IFunc} {n : Nat} {e : Ent} {args : List AV} {H : AH} {f : AV}

theorem answer_AE (hE : entOK O FT n e = true) (ha : asks e f args H = true) : AE H (updH H e) := by
  obtain ⟨r, _, _, _, h4, h5, h6⟩ := ent_facts hE
  obtain ⟨_, a2, a3, _, a5⟩ := asks_facts ha
  refine ⟨by rw [a2]; exact h4, ⟨a3.1.symm, a3.2.1.symm, a3.2.2.1.symm, a3.2.2.2.symm⟩, fun _ b hb hm => ?_, fun ht b hb => ?_, fun _ b x hb hx => ?_, fun ht b x hb hx => ?_⟩
  · show (updAll e.upd H.blk).get b = _
    rw [updAll_get]
    cases hl : lk b e.upd with
    | none => rfl
    | some o =>
      obtain ⟨_, g1, g2⟩ := (h5 b o hl).2.2 (by rw [← a2]; exact hb)
      rcases hm with hm | hm
      · have : H.may b = (entH e).may b := by unfold AH.may; rw [a3.1, a3.2.1]; rfl
        rw [hm, g1] at this; cases this
      · refine absurd ?_ g2
        unfold AH.hidden at hm ⊢
        rw [a3.2.2.1, a3.2.2.2] at hm; exact hm
  · show (updAll e.upd H.blk).get b = none
    rw [updAll_get]
    cases hl : lk b e.upd with
    | some o => have := (h5 b o hl).1; exact absurd this (Nat.not_lt.2 hb)
    | none => exact ht b (by rw [a2]; exact Nat.le_trans h4 hb)
  · have hx : (updAll e.upd H.blk).get b = some x := hx
    rw [updAll_get] at hx
    cases hl : lk b e.upd with
    | none => rw [hl] at hx; exact ⟨x, hx, id, fun _ => rfl, id⟩
    | some o =>
      obtain ⟨⟨y, y1, y2⟩, _⟩ := (h5 b o hl).2.2 (by rw [← a2]; exact hb)
      refine ⟨y, a5 _ (lk_mem y1), fun _ => y2, fun h => (by rw [y2] at h; cases h), fun h => ?_⟩
      rw [hl] at hx
      have hx : o = some x := hx
      have := ((h5 b o hl).2.1 x hx).2
      rw [h] at this; cases this
  · have hx : (updAll e.upd H.blk).get b = some x := hx
    rw [updAll_get] at hx
    cases hl : lk b e.upd with
    | none => rw [hl] at hx; rw [ht b hb] at hx; cases hx
    | some o =>
      rw [hl] at hx
      have hx : o = some x := hx
      exact ((h5 b o hl).2.1 x hx).2

theorem answer_call (hR : RecOK CR P (ev O FT n)) (hE : entOK O FT n e = true) (ha : asks e f args H = true) {B : Nat} {μ : Mu} {w : World} {vs : Array Value} (h : HR CR B H μ w) (hv : VRs μ args vs.toList) (hf : Fresh μ H (updH H e)) :
    (∃ fn, P.funcs[e.k]? = some fn ∧ fn.body.isSome = true ∧ (fn.name == "runtime.NumGoroutine") = false) ∧
    ∀ (F : Fence) (R : Ending → World → Prop), FW F → (∀ v w' μ', VR μ' e.v v → HR CR B (updH H e) μ' w' → Ext H μ w (updH H e) μ' w' → R (.returned v) w') → CallsIn F 0 P e.k vs w R := by
  obtain ⟨r, h1, h2, h3, h4, h5, h6⟩ := ent_facts hE
  obtain ⟨_, a2, a3, a4, a5⟩ := asks_facts ha
  have s : Sub (entH e) H := ⟨a2.symm, ⟨a3.1.symm, a3.2.1.symm, a3.2.2.1.symm, a3.2.2.2.symm⟩, fun b x hb => by
    have hb : (putAll e.need .nil).get b = some x := hb
    rw [putAll_get] at hb
    cases hl : lk b e.need with
    | none => rw [hl] at hb; cases hb
    | some y => rw [hl] at hb; cases hb; exact a5 _ (lk_mem hl)⟩
  have hfr : Fresh μ H r.H := fun b g1 g2 => hf b g1 (by show b < e.next'; rw [← h3]; exact g2)
  obtain ⟨q1, q2⟩ := hR.call h1 (h.sub s) (vs := vs) (by simpa [← a4] using hv) (fun b g1 g2 => hfr b (by rw [← s.next]; exact g1) g2)
  refine ⟨q1, fun F R hW hRR => q2 F R hW fun v w' μ' k1 k2 k3 => ?_⟩
  obtain ⟨f1, f2⟩ := frame h s hfr k2 k3 (H' := updH H e) ⟨h3.symm, ⟨a3.1.symm, a3.2.1.symm, a3.2.2.1.symm, a3.2.2.2.symm⟩, fun b x hb => by
    have hb : (updAll e.upd H.blk).get b = some x := hb
    rw [updAll_get] at hb
    cases hl : lk b e.upd with
    | some o => rw [hl] at hb; exact .inl ((h5 b o hl).2.1 x hb).1
    | none =>
      rw [hl] at hb
      have hb : H.blk.get b = some x := hb
      cases hn : lk b e.need with
      | some y =>
        have := a5 _ (lk_mem hn)
        rw [hb] at this; cases this
        exact .inl ((h6 b _ hn).2 hl)
      | none =>
        refine .inr ⟨?_, ?_, hb⟩
        · apply Classical.byContradiction; intro hlt
          have := h.top b (by omega); rw [hb] at this; cases this
        · show (putAll e.need .nil).get b = none
          rw [putAll_get, hn]; cases b <;> rfl⟩
  exact hRR v w' μ' (by rw [← h2]; exact k1) f1 f2

theorem oracle_ok {es : List Ent} (hes : ∀ e ∈ es, ∃ O FT n, RecOK CR P (ev O FT n) ∧ entOK O FT n e = true) : OrOK CR P (oracle es) := by
  have key : ∀ {es : List Ent} {f args H r}, oracle es f args H = some r → ∃ e ∈ es, asks e f args H = true ∧ r = { ex := .normal, τ := .nil, H := updH H e, v := e.v } := by
    intro es
    induction es with
    | nil => intro f args H r h; cases h
    | cons e es ih =>
      intro f args H r h
      have h : orElse2 (answer e f args H) (oracle es f args H) = some r := h
      rcases orElse2_some h with g | ⟨_, g⟩
      · unfold answer at g
        rw [ifb_none_eq_some] at g
        exact ⟨e, by simp, g.1, (Option.some.inj g.2).symm⟩
      · obtain ⟨e', h1, h2⟩ := ih g
        exact ⟨e', by simp [h1], h2⟩
  refine ⟨fun v args H r h => ?_, fun {v args H r} h => ?_, fun {k first cap args H r} h {B μ w vs} hh hv hf => ?_⟩
  · obtain ⟨e, he, ha, rfl⟩ := key h
    obtain ⟨O, FT, n, _, hE⟩ := hes e he
    exact answer_AE hE ha
  · obtain ⟨e, he, ha, rfl⟩ := key h
    exact ⟨e.k, [], [], (asks_facts ha).1⟩
  · obtain ⟨e, he, ha, rfl⟩ := key h
    obtain ⟨O, FT, n, hR, hE⟩ := hes e he
    have hfe := (asks_facts ha).1
    cases hfe
    exact answer_call hR hE ha hh (by simpa using hv) hf
end
end Go.Ai
