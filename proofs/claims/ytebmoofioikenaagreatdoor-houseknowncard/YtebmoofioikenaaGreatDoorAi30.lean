/- Package variables that are only read. -/
import Derived.Test.YtebmoofioikenaaGreatDoorAi29
import Derived.Lib.LaidTab
namespace Go.Ai
open Go

/-- A heap in which some package variables lie, to be read alone. -/
noncomputable def glbH (G : Nat) (gs : List (Nat × ABlk)) : AH := { next := G, blk := putAll gs .nil, lim := 0, exc := [], hidAt := 0, hid := [] }
noncomputable def glbMu (W : World) (gs : List (Nat × ABlk)) : Mu := fun b => if (lk b gs).isSome then (match W.heap[b]? with | some (.cells cs _ _) => some ⟨b, 0, cs.size⟩ | _ => none) else none

theorem glb_start (CR : CRel) (W : World) (G : Nat) (gs : List (Nat × ABlk)) (hgs : ∀ p ∈ gs, p.1 < G ∧ ∃ vs, p.2 = .cells true vs 1 ∧ ∃ cs t fz, W.heap[p.1]? = some (.cells cs t fz) ∧ VRs (fun _ => none) vs (cs.toList.take vs.length)) :
    HR CR 0 (glbH G gs) (glbMu W gs) W ∧ (∀ b, (glbH G gs).next ≤ b → glbMu W gs b = none) ∧ ∀ b, ¬ (glbH G gs).canW b := by
  have hget : ∀ b, (glbH G gs).blk.get b = lk b gs := fun b => by
    show (putAll gs .nil).get b = _
    rw [putAll_get]; cases lk b gs <;> rfl
  have hview : ∀ b x, (glbH G gs).view b = some x → lk b gs = some x := fun b x h => by rw [← hget]; exact view_blk h
  have hb : ∀ b x, lk b gs = some x → b < G ∧ ∃ vs, x = .cells true vs 1 ∧ ∃ cs t fz, W.heap[b]? = some (.cells cs t fz) ∧ VRs (fun _ => none) vs (cs.toList.take vs.length) ∧ glbMu W gs b = some ⟨b, 0, cs.size⟩ := fun b x h => by
    obtain ⟨h1, vs, h2, cs, t, fz, h3, h4⟩ := hgs _ (lk_mem h)
    refine ⟨h1, vs, h2, cs, t, fz, h3, h4, ?_⟩
    unfold glbMu; rw [h]; simp only [Option.isSome_some, if_true]
    rw [h3]
  have hmu : ∀ b e, glbMu W gs b = some e → ∃ x, lk b gs = some x ∧ e.c = b ∧ e.d = 0 := fun b e h => by
    unfold glbMu at h
    cases hl : lk b gs with
    | none => rw [hl] at h; cases h
    | some x =>
      obtain ⟨_, _, _, cs, t, fz, h3, _, h5⟩ := hb b x hl
      rw [hl] at h
      simp only [Option.isSome_some, if_true, h3] at h
      cases h
      exact ⟨x, rfl, rfl, rfl⟩
  refine ⟨⟨fun b e x hm hv => ?_, fun b b' e e' x x' _ h1 _ v1 _ hr => ?_, fun b e x _ hv hr => ?_, fun b e hm => ?_, fun b hG => ?_, Nat.zero_le _, ⟨Nat.zero_le _, fun _ h => (by cases h)⟩, fun _ h => (by cases h), Nat.zero_le _, fun b x hv _ => ?_⟩, fun b hG => ?_, fun b hw => ?_⟩
  · obtain ⟨_, vs, rfl, cs, t, fz, h3, h4, h5⟩ := hb b x (hview b x hv)
    rw [hm] at h5; cases h5
    exact ⟨cs, t, fz, h3, by simp, by simpa using h4.mono (fun _ _ h => by cases h), fun h => (by cases h), .inr (.inl rfl)⟩
  · obtain ⟨_, vs, rfl, _⟩ := hb b x (hview b x v1); cases hr
  · obtain ⟨_, vs, rfl, _⟩ := hb b x (hview b x hv); cases hr
  · obtain ⟨x, h1, h2, _⟩ := hmu b e hm
    obtain ⟨_, _, _, cs, t, fz, h3, _⟩ := hb b x h1
    rw [h2]; exact (Array.getElem?_eq_some_iff.1 h3).1
  · rw [hget]
    cases hl : lk b gs with
    | none => rfl
    | some x => exact absurd (hb b x hl).1 (Nat.not_lt.2 hG)
  · obtain ⟨_, vs, rfl, cs, t, fz, h3, h4, h5⟩ := hb b x (hview b x hv)
    exact ⟨_, h5, rfl, rfl⟩
  · cases hm : glbMu W gs b with
    | none => rfl
    | some e =>
      obtain ⟨x, h1, _⟩ := hmu b e hm
      exact absurd (hb b x h1).1 (Nat.not_lt.2 hG)
  · obtain ⟨⟨x, hv, hr⟩, _⟩ := hw
    obtain ⟨_, vs, rfl, _⟩ := hb b x (hview b x hv); cases hr

def avOfD : DataW Unit → AV
  | .lit (.int k z) => .int k z
  | .lit (.string s) => .str s
  | _ => .undef

/-- An array of numbers, or of strings, that is listed: what its cells hold. -/
theorem laid_cells {P : Program} {W : World} {g : Nat} {t e : TypeId} {n : Nat} (ht : P.underlying t = some (.array n e)) (he : (∃ k, P.underlying e = some (.int k)) ∨ P.underlying e = some .string) (hce : P.cellsOf e = 1) (hct : P.cellsOf t = n)
    {name : String} (hg : P.globalNamed name = some g) (hty : (P.globals[g]?).map (·.type) = some t) {ds : List (DataW Unit)} :
    ∀ {laid : List (String × DataW Unit)} {ps : List MemPlace}, DataW.LaidVars P W laid ps → (name, DataW.agg ds) ∈ laid → ∃ cs t' fz, W.heap[g]? = some (.cells cs t' fz) ∧ VRs (fun _ => none) (ds.map avOfD) (cs.toList.take (ds.map avOfD).length)
  | [], _, _, hm => by cases hm
  | (m, d) :: r, ps, h, hm => by
    obtain ⟨g', t', cs, fuel, p, q, h1, h2, h3, h4, h5, _⟩ := h
    rcases List.mem_cons.1 hm with hx | hx
    · cases hx
      obtain rfl := Option.some.inj (hg.symm.trans h1)
      obtain rfl := Option.some.inj (hty.symm.trans h2)
      have hheap : ∃ t' fz, W.heap[g]? = some (.cells cs t' fz) := by
        simp only [World.var?, h1, Option.bind_some] at h3
        split at h3 <;> simp_all
      obtain ⟨t', fz, hh⟩ := hheap
      refine ⟨cs, t', fz, hh, ?_⟩
      cases fuel with
      | zero => simp [DataW.trod] at h4
      | succ fuel =>
        simp only [DataW.trod, ht, hce, hct, Nat.mul_one] at h4
        split at h4
        · rename_i hl
          obtain ⟨xs, hm, hx⟩ := Option.map_eq_some_iff.1 h4
          have hxs : xs.map (·.1) = ds := by
            have := congrArg Prod.fst hx
            simpa using this
          have hxl : xs.length = n := by simpa using Lib.mapM_length hm
          have hdl : ds.length = n := by rw [← hxs]; simp [hxl]
          refine VRs.of (by simp at hl ⊢; omega) fun i a v ha hv => ?_
          have hi : i < n := by
            have := (List.getElem?_eq_some_iff.1 ha).1
            simp at this; omega
          obtain ⟨b, hb, hf⟩ := Lib.mapM_at hm i i (by simp [hi])
          have hd : ds[i]? = some b.1 := by rw [← hxs]; simp [hb]
          have ha' : avOfD b.1 = a := by
            simp only [List.getElem?_map, hd, Option.map_some] at ha
            exact Option.some.inj ha
          have hv' : cs.toList[i]? = some v := by
            rw [List.getElem?_take] at hv
            split at hv
            · exact hv
            · cases hv
          rcases he with ⟨k, he⟩ | he
          · obtain ⟨z, hc, hbe, _⟩ := DataW.trod_int he hf
            have h1 : cs.toList[i]? = some (.int k z) := by
              have := congrArg (·[0]?) hc
              simpa [List.getElem?_take, List.getElem?_drop] using this
            rw [hv'] at h1; cases h1
            rw [← ha', hbe]; rfl
          · obtain ⟨s, hc, hbe, _⟩ := DataW.trod_string he hf
            have h1 : cs.toList[i]? = some (.string s) := by
              have := congrArg (·[0]?) hc
              simpa [List.getElem?_take, List.getElem?_drop] using this
            rw [hv'] at h1; cases h1
            rw [← ha', hbe]
            rfl
        · cases h4
    · exact laid_cells ht he hce hct hg hty h5 hx
end Go.Ai
