/- Regions that draw their order: sound, whatever is drawn. -/
import Derived.Test.YtebmoofioikenaaGreatDoorAi17
namespace Go.Ai
open Go

section
variable {tt : TT} {CR : CRel} {B N : Nat} {P : Program} {X : Opd → List Nat} {os : List IOper} {ops : Array Oper} {H₀ : AH} {μ₀ : Mu} {w₀ : World} {ds₀ : List Deferred} {T : Nat → Fr AV} {Hs : Nat → AH} {rec : Task → Option Res}

def madeOf (listed : Array Bool) (k : Nat) : Prop := listed[k]? = some true

theorem all_of_ready {listed : Array Bool} (hsz : listed.size = ops.size) (hlow : ∀ (i : Nat) (o : Oper), ops[i]? = some o → ∀ e ∈ o.after.toList, Region.binds .any e = true → e.on < i)
    (hnil : Region.ready .any ops listed = []) : ∀ k, k < ops.size → madeOf listed k := by
  intro k
  induction k using Nat.strongRecOn with
  | _ k ih =>
    intro hk
    cases hl : listed[k]? with
    | none => rw [Array.getElem?_eq_none_iff] at hl; omega
    | some t =>
      cases t with
      | true => exact hl
      | false =>
        have : k ∈ Region.ready .any ops listed := mem_ready.2 ⟨by simp [Array.getD_eq_getD_getElem?, hl], ops[k], by simp [hk], fun e he hb => by
          have hlt := hlow k ops[k] (by simp [hk]) e (Array.mem_toList_iff.2 he) hb
          have := ih e.on hlt (by omega)
          unfold madeOf at this
          simp [Array.getD_eq_getD_getElem?, this]⟩
        rw [hnil] at this; cases this

theorem wpOpIn_of {F : Fence} {Q : Exit → Act → World → Prop} {i : Nat} {o : Oper} {K : Act → World → Prop} {a : Act} {w : World} (ho : ops[i]? = some o) (h : OpIn F P ops Q o K a w) : wpOpIn F 0 P ops Q i K a w := by
  unfold wpOpIn; rw [ho]; exact h

theorem any_sound (hT : TTok tt P) (hR : RecOK CR P rec) (hr : RecAE rec) (st : Static tt N os ops) (hL : Line rec X os H₀ T Hs) (h₀ : HR CR B H₀ μ₀ w₀) (hfr : Fresh μ₀ H₀ (Hs os.length)) {F : Fence} (hW : FW F) {Q : Exit → Act → World → Prop}
    (hQ : ∀ a' w' μ', FR N μ' (T os.length) a'.tmps → a'.defers = ds₀ → HR CR B (Hs os.length) μ' w' → Ext H₀ μ₀ w₀ (Hs os.length) μ' w' → Q .normal a' w') :
    ∀ (fuel : Nat) (listed : Array Bool) (a : Act) (μ : Mu) (w : World), listed.size = ops.size → listed.toList.count false ≤ fuel → Down os (madeOf listed) → Inv CR B N X os H₀ μ₀ w₀ ds₀ T Hs (madeOf listed) a μ w → wpAnyIn F 0 P .any ops Q fuel listed a w := by
  have fin : ∀ (listed : Array Bool) (a : Act) (μ : Mu) (w : World), listed.size = ops.size → Inv CR B N X os H₀ μ₀ w₀ ds₀ T Hs (madeOf listed) a μ w → Region.ready .any ops listed = [] → Q .normal a w := by
    intro listed a μ w hsz I hnil
    obtain ⟨d1, d2, d3⟩ := I.done st hL hr h₀ hfr (fun k hk => all_of_ready hsz st.low hnil k (by rw [← st.len]; exact hk))
    exact hQ a w μ d1 I.defs d2 d3
  intro fuel
  induction fuel with
  | zero =>
    intro listed a μ w hsz hcnt _ I
    have hnil : Region.ready .any ops listed = [] := by
      cases hrd : Region.ready .any ops listed with
      | nil => rfl
      | cons j js =>
        obtain ⟨hj, o, ho, _⟩ := mem_ready.1 (show j ∈ Region.ready .any ops listed by rw [hrd]; simp)
        have hlt : j < listed.size := by rw [hsz]; exact (Array.getElem?_eq_some_iff.1 ho).1
        have : false ∈ listed.toList := by
          rw [Array.getD_eq_getD_getElem?, Array.getElem?_eq_getElem hlt] at hj
          simp at hj
          rw [← hj]; simp
        have := List.count_pos_iff.2 this
        omega
    exact ⟨hnil, fin listed a μ w hsz I hnil⟩
  | succ fuel ih =>
    intro listed a μ w hsz hcnt hD I
    refine ⟨fin listed a μ w hsz I, fun i hi => ?_⟩
    obtain ⟨hj, o, ho, hall⟩ := mem_ready.1 hi
    have hlt : i < ops.size := (Array.getElem?_eq_some_iff.1 ho).1
    have hlt' : i < os.length := by rw [st.len]; exact hlt
    have hx : os[i]? = some os[i] := by simp [hlt']
    have hli : listed[i]? = some false := by
      rw [Array.getElem?_eq_getElem (by omega)]
      rw [Array.getD_eq_getD_getElem?, Array.getElem?_eq_getElem (by omega)] at hj
      simpa using hj
    have hni : ¬ madeOf listed i := fun h => by unfold madeOf at h; rw [hli] at h; cases h
    have hpre1 : ∀ k ∈ os[i].after, madeOf listed k := fun k hk => by
      obtain ⟨_, e, he, hb, rfl⟩ := st.aft i _ o hx ho k hk
      have := hall e (Array.mem_toList_iff.1 he) hb
      unfold madeOf
      rw [Array.getD_eq_getD_getElem?] at this
      cases hl : listed[e.on]? with
      | none => rw [hl] at this; cases this
      | some t => rw [hl] at this; simp at this; rw [this]
    have hpre : ∀ k, PredOf os i k → madeOf listed k := fun k hk => by
      cases hk with
      | base h1 h2 => rw [hx] at h1; cases h1; exact hpre1 k h2
      | step h1 h2 h3 => rw [hx] at h1; cases h1; exact hD.down _ k (hpre1 _ h2) h3
    obtain ⟨R, hev, hRR⟩ := hL.step i _ hx
    have hframe := I.frame st hL hr h₀ hfr hD hx hni hpre
    have hheap := I.heap st hL hr h₀ hfr hD hx hni hpre
    have hfresh := I.fresh st hL hr h₀ hfr hD hx hni hpre hRR
    obtain ⟨v, hv1, hv2⟩ := evOp_congr (τ' := (T i).keep fun p => decide (p ∈ os[i].reads)) (fun p hp => by rw [Fr.get_keep, if_pos (by simpa using hp)]) hev
    have hck := st.op i _ o hx ho
    have hdst : ckDst N os[i].dst o.dst = true := by
      unfold ckOper at hck; split at hck
      · rename_i hc; simp only [Bool.and_eq_true] at hc; exact hc.1
      · cases hck
    have hmade : madeOf (listed.setIfInBounds i true) = fun k => madeOf listed k ∨ k = i := by
      funext k
      unfold madeOf
      by_cases hk : k = i
      · subst hk; simp [Array.getElem?_setIfInBounds_self_of_lt (show k < listed.size by omega)]
      · rw [Array.getElem?_setIfInBounds_ne (Ne.symm hk)]; simp [hk]
    refine wpOpIn_of ho (evOp_sound hT hR hframe hheap hck hv2 hfresh hW fun y v' w' μ' k1 k2 k3 k4 => ?_)
    refine ih _ _ μ' w' (by simpa using hsz) ?_ ?_ ?_
    · have hc := List.count_set (a := true) (b := false) (l := listed.toList) (i := i) (by simp; omega)
      have hg : listed.toList[i]'(by simp; omega) = false := by
        rw [Array.getElem?_eq_getElem (by omega)] at hli; simpa using hli
      rw [hg] at hc
      have hpos : 0 < listed.toList.count false := List.count_pos_iff.2 (by rw [← hg]; simp)
      rw [show (false == false) = true from rfl, show (true == false) = false from rfl, if_pos rfl, if_neg (by decide)] at hc
      rw [Array.toList_setIfInBounds, hc]
      omega
    · rw [hmade]
      refine ⟨fun k hk => hk.elim (hD.lt k) fun e => e ▸ hlt', fun j k hj hjk => ?_⟩
      rcases hj with hj | rfl
      · exact .inl (hD.down j k hj hjk)
      · exact .inl (hpre k hjk)
    · rw [hmade]
      have hvv : VR μ' v' y ∧ (putD ((T i).keep fun p => decide (p ∈ os[i].reads)) os[i].dst v = putD ((T i).keep fun p => decide (p ∈ os[i].reads)) os[i].dst v') := ⟨k1, k2⟩
      have hTv : T (i + 1) = putD (T i) os[i].dst v' := by
        have hv1 : T (i + 1) = putD (T i) os[i].dst v := hv1
        rw [hv1]
        cases hd : os[i].dst with
        | none => rfl
        | some d =>
          have h := hvv.2
          rw [hd] at h
          have h := congrArg (fun t => Fr.get t d) h
          simp only [putD, Fr.get_put, if_true] at h
          cases h; rfl
      exact I.step st hL hr h₀ hfr hD hx hni hpre hev hRR hdst hTv k1 k3 k4

theorem draw_sound (hT : TTok tt P) (hR : RecOK CR P rec) (hr : RecAE rec) (st : Static tt N os ops) (hm : P.follows .mixedOrders = true) {two : Nat} {τ : Fr AV} {H : AH} {r : Res} (hev : eDraw rec os two τ H = some r) {μ : Mu} {a : Act} {w : World}
    (hF : FR N μ τ a.tmps) (h : HR CR B H μ w) (hfr : Fresh μ H r.H) {F : Fence} (hW : FW F) {Q : Exit → Act → World → Prop} {id : Nat}
    (hQ : ∀ a' w' μ', FR N μ' r.τ a'.tmps → a'.defers = a.defers → HR CR B r.H μ' w' → Ext H μ w r.H μ' w' → Q .normal a' w') : (Code.region id ops true).wpIn F 0 P Q a w := by
  unfold eDraw at hev
  obtain ⟨τ₁, _, hev⟩ := obind_eq_some.1 hev
  generalize fenceX H τ₁ = X at hev
  obtain ⟨p, hd, hev⟩ := obind_eq_some.1 hev
  cases hev
  obtain ⟨T, Hs, e1, e2, e3, e4, e5⟩ := line_of hd
  subst e1
  have hL : Line rec X os H T Hs := ⟨e2, e3⟩
  have hfr : Fresh μ H p.2 := hfr
  rw [← e5] at hfr
  have hw : ({ w with drawn := w.drawn + 1 } : World).heap = w.heap := rfl
  have h1 := h.drew hw
  have hnone : ∀ k, ¬ madeOf (Array.replicate ops.size false) k := fun k hk => by
    unfold madeOf at hk
    rw [Array.getElem?_replicate] at hk
    split at hk <;> cases hk
  refine wpIn_region_any hm (any_sound hT hR hr st hL h1 hfr hW (ds₀ := a.defers) (fun a' w' μ' g1 g2 g3 g4 => hQ a' w' μ' ?_ g2 ?_ ?_) ops.size _ a μ _ (by simp) (by simp) ⟨fun k hk => absurd hk (hnone k), fun i k hi _ => absurd hi (hnone i)⟩ (Inv.start hL hF h1 hnone))
  · show FR N μ' p.1 a'.tmps; rw [← e4]; exact g1
  · show HR CR B p.2 μ' w'; rw [← e5]; exact g3
  · show Ext H μ w p.2 μ' w'; rw [← e5]; exact ⟨g4.le, g4.new, g4.size, g4.keep, g4.img, g4.next, g4.old, g4.oldv, g4.os, g4.perm⟩

/-! ### Regions without a draw -/
theorem ops_sound (hT : TTok tt P) (hR : RecOK CR P rec) {F : Fence} (hW : FW F) {Q : Exit → Act → World → Prop} : ∀ (os' : List IOper) (k : Nat) {τ : Fr AV} {H : AH} {p : Fr AV × AH} {μ : Mu} {a : Act} {w : World}, k + os'.length = ops.size →
    (∀ (i : Nat) (x : IOper) (o : Oper), os'[i]? = some x → ops[k + i]? = some o → ckOper tt N ops x o = some ()) → evOps rec os' τ H = some p → FR N μ τ a.tmps → HR CR B H μ w → Fresh μ H p.2 →
    (∀ a' w' μ', FR N μ' p.1 a'.tmps → a'.defers = a.defers → HR CR B p.2 μ' w' → Ext H μ w p.2 μ' w' → Q .normal a' w') → wpOpsIn F 0 P ops Q (List.range' k os'.length) a w
  | [], k, τ, H, p, μ, a, w, _, _, hev, hF, h, _, hQ => by
    cases hev
    exact hQ a w μ hF rfl h (Ext.refl H μ w)
  | x :: os', k, τ, H, p, μ, a, w, hlen, hck, hev, hF, h, hfr, hQ => by
    rw [evOps_cons] at hev
    obtain ⟨q, h1, h2⟩ := obind_eq_some.1 hev
    simp only [List.length_cons] at hlen
    have hk : k < ops.size := by omega
    have ho : ops[k]? = some ops[k] := by simp [hk]
    have n1 := evOp_next h1
    have n2 := evOps_next h2
    have hc := hck 0 x ops[k] rfl (by simp)
    have hdst : ckDst N x.dst ops[k].dst = true := by
      unfold ckOper at hc; split at hc
      · rename_i g; simp only [Bool.and_eq_true] at g; exact g.1
      · cases hc
    rw [List.length_cons, List.range'_succ, wpOpsIn_cons]
    refine wpOpIn_of ho (evOp_sound hT hR hF h hc h1 (fun b g1 g2 => hfr b g1 (Nat.lt_of_lt_of_le g2 n2)) hW fun y v w' μ' k1 k2 k3 k4 => ?_)
    have hfr' : Fresh μ' q.2 p.2 := fun b g1 g2 => by
      cases hb : μ' b with
      | none => rfl
      | some e =>
        rcases k4.new b e hb with g | ⟨_, _, g⟩
        · rw [hfr b (by omega) g2] at g; cases g
        · omega
    refine ops_sound hT hR hW os' (k + 1) (by omega) (fun i x o hi ho => hck (i + 1) x o (by simpa using hi) (by rw [← ho]; congr 1; omega)) h2 (k2 ▸ (hF.mono k4.le).putD hdst k1) k3 hfr' fun a' w'' μ'' g1 g2 g3 g4 => ?_
    refine hQ a' w'' μ'' g1 (by rw [g2]; cases ops[k].dst <;> rfl) g3 (k4.trans g4 (fun b g1 g2 => hfr b g1 (Nat.lt_of_lt_of_le g2 n2)) k3.top)
end
end Go.Ai
