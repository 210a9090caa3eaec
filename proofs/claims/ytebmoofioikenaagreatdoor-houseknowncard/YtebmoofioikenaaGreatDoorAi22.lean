/- A function without arguments: what its evaluation says of the model. -/
import Derived.Test.YtebmoofioikenaaGreatDoorAi21
import Derived.RowKit3
namespace Go.Ai
open Go

/-- What was there is as it was. -/
def Stays (W W' : World) : Prop := W.keptBut W' (fun _ => False) ∧ (∀ a, a.block < W.heap.size → W'.frozen? a = W.frozen? a)

theorem Stays.frame {W W' : World} (h : Stays W W') (may : MemPlace → Prop) : W.keptBut W' may := World.keptBut_mono (fun _ f => f.elim) h.1

open Go.WideShapes Go.ChangeShapes in
/-- A call that leaves what was there: its arguments read as they did. -/
theorem post_of_stays {P : Program} {H : Type} {enc : TypeId × Value → H} {f : Func} {s : ChangeSpec} {apart fresh handsOn again : Bool} {W W' : World} {args : Array Value} {v : Value} {ds gs : List (DataW H)} {before pa pv : List MemPlace}
    (hW : DataW.Whole enc P f.params.toList s.vars apart W args.toList ds gs before)
    (hres : ∀ (b : Nat) (sp : Nat → Bool) (hd : Bool), DataW.TrodAll enc P W' b sp hd f.resultTypes.toList (v.resultList f.resultTypes.size) (s.fn H (ds ++ gs)).results [])
    (hargs : ∀ sp : Nat → Bool, (∀ p ∈ before, sp p.block = true) → DataW.TrodAll enc P W' 0 sp true f.params.toList args.toList (s.fn H (ds ++ gs)).args pa)
    (hvars : ∀ sp : Nat → Bool, (∀ p ∈ before, sp p.block = true) → DataW.TrodVars enc P W' sp s.vars (s.fn H (ds ++ gs)).vars pv)
    (hps : before = pa ++ pv) (hst : Stays W W')
    (hok : ∀ (j : Nat) (t : TypeId) (r : Value), f.resultTypes[j]? = some t → (v.resultList f.resultTypes.size)[j]? = some r → Value.okWide P W' .any 0 t r) :
    s.post enc P f apart fresh handsOn again W args v W' := by
  have hold : ∀ p ∈ before, (fun b => decide (b < W.heap.size)) p.block = true := fun p hp => by simpa using hW.lt p hp
  have hlt := hW.lt
  refine ⟨ds, gs, before, [], pa, pv, hW, hres _ _ _, hargs _ hold, hvars _ hold, World.keptBut_mono (fun p hp => ⟨hp, ?_⟩) (hst.frame (· ∈ before)), fun _ => ?_⟩
  · rw [hps, List.mem_append] at hp
    exact Or.inr hp
  · obtain ⟨_, _, _, _, _, hz, hn⟩ := hW
    refine ⟨hok, _, _, ([] ++ pa) ++ pv, ⟨[] ++ pa, pv, trodAll_append (hargs _ (fun _ _ => rfl)) (hres _ _ _), hvars _ (fun _ _ => rfl), rfl, ?_, ?_⟩, ?_⟩
    · intro b off hp
      have hp' := (show ∀ x, x ∈ ([] ++ pa) ++ pv → x ∈ before from fun x hx => by rw [hps]; simpa using hx) _ hp
      rw [hst.2 _ (hlt _ hp')]
      exact hz b off hp'
    · intro ha
      have := hn ha
      rw [hps] at this
      simpa using this
    · intro p hp _
      rw [hps]
      simpa using hp

section
variable {tt : TT} {P : Program}

theorem HR.start (CR : CRel) (g : Nat) (W : World) : HR CR 0 (AH.start g) (fun _ => none) W :=
  ⟨fun _ _ _ h => (by cases h), fun _ _ _ _ _ _ _ h => (by cases h), fun _ _ _ h => (by cases h), fun _ _ h => (by cases h), fun _ _ => rfl, Nat.zero_le _, ⟨Nat.zero_le _, fun _ h => (by cases h)⟩, fun _ h => (by cases h), Nat.zero_le _, fun b x h => (by rw [AH.view_eq] at h; split at h <;> cases h)⟩

theorem stays_of_ext {H H' : AH} {μ μ' : Mu} {W W' : World} (E : Ext H μ W H' μ' W') (hno : ∀ b, ¬ H.canW b) : Stays W W' := by
  have hk : ∀ c, c < W.heap.size → W'.heap[c]? = W.heap[c]? := fun c hc => E.keep c hc fun b _ _ _ => hno b
  refine ⟨⟨E.os.1, E.os.2, fun i hi => ?_⟩, fun a ha => frozen_zone rfl (by rw [hk _ ha])⟩
  rw [hk i hi]
  cases W.heap[i]? with
  | none => rfl
  | some o => cases o <;> simp

theorem closed_soundH (hT : TTok tt P) (hm : P.follows .mixedOrders = true) {O : AV → List AV → AH → Option Res} (hO : OrOK (ckRel tt) P O) (FT : Nat → Option IFunc) (hFT : ∀ k fn, FT k = some fn → ∃ pf, P.funcs[k]? = some pf ∧ ckFn tt fn pf = true) {n f : Nat} {H : AH} {μ : Mu} {W : World} (hH : HR (ckRel tt) 0 H μ W) (hf : ∀ b, H.next ≤ b → μ b = none) (hno : ∀ b, ¬ H.canW b)
    (h : isTrue (ev O FT n (.call (.fn f [] []) [] H)) = true) : Calls P f #[] W fun e W' => e = .returned (.bool true) ∧ Stays W W' := by
  cases hr : ev O FT n (.call (.fn f [] []) [] H) with
  | none => rw [hr] at h; cases h
  | some r =>
    rw [hr] at h
    have hv : r.v = .bool true := by
      have h : isBool true r.v = true := h
      unfold isBool at h
      cases hrv : r.v <;> rw [hrv] at h <;> simp [AV.el] at h
      rename_i b; cases b
      · simp at h
      · rfl
    refine (callsIn_wide (n := 0)).1 (((rec_sound hT hm hO FT hFT n).call hr hH (vs := #[]) rfl (fun b hb _ => hf b hb)).2 Fence.wide _ ⟨fun _ => trivial, rfl, rfl⟩ fun v w' μ' h1 h2 h3 => ?_)
    rw [hv] at h1
    exact ⟨by rw [show v = .bool true from h1], stays_of_ext h3 hno⟩

theorem closed_sound (hT : TTok tt P) (hm : P.follows .mixedOrders = true) {O : AV → List AV → AH → Option Res} (hO : OrOK (ckRel tt) P O) (FT : Nat → Option IFunc) (hFT : ∀ k fn, FT k = some fn → ∃ pf, P.funcs[k]? = some pf ∧ ckFn tt fn pf = true) {n f g : Nat} (h : yes O FT n f g = true) (W : World) :
    Calls P f #[] W fun e W' => e = .returned (.bool true) ∧ Stays W W' :=
  closed_soundH hT hm hO FT hFT (HR.start (ckRel tt) g W) (fun _ _ => rfl) (fun b hw => by
    obtain ⟨⟨x, hx, _⟩, _⟩ := hw
    rw [AH.view_eq] at hx; split at hx <;> cases hx) h
end
end Go.Ai
