/- Code is sound. -/
import Derived.Test.YtebmoofioikenaaGreatDoorAi19
namespace Go.Ai
open Go

section
variable {tt : TT} {B L : Nat} {P : Program} {H : AH} {μ : Mu} {w : World}

def exitOf : Ex → Exit
  | .normal => .normal
  | .exit id => .exit id
  | .ret => .ret

/-- An object of the model's own is laid. -/
theorem own_alloc (CR : CRel) (h : HR CR B H μ w) (ds : Option (List Deferred)) : HR CR B H μ (w.alloc (.deferred ds)) ∧ Ext H μ w H μ (w.alloc (.deferred ds)) := by
  have hsz : (w.alloc (.deferred ds)).heap.size = w.heap.size + 1 := by show (w.heap.push _).size = _; simp
  have hget : ∀ c, c < w.heap.size → (w.alloc (.deferred ds)).heap[c]? = w.heap[c]? := fun c hc => by show (w.heap.push _)[c]? = _; rw [Array.getElem?_push_lt hc]; simp [hc]
  exact ⟨⟨fun b e x hb hv => (h.blk b e x hb hv).heap (hget _ (h.ins b e hb)), h.sep, h.low, fun b e hb => by have := h.ins b e hb; omega, h.top, h.lim, h.hid, h.exc, by have := h.base; omega, h.gl⟩,
    ⟨μ.le_refl, fun _ _ h => .inl h, by omega, fun c hc _ => hget c hc, fun b e h1 h2 => (by rw [h1] at h2; cases h2), Nat.le_refl _, fun _ _ h => h, fun _ x _ h => ⟨⟨x, h, id⟩, fun _ => h⟩, ⟨rfl, rfl⟩, rfl, rfl, rfl, rfl⟩⟩

theorem fresh_trans {H' H'' : AH} {μ' : Mu} {w' : World} (hf : Fresh μ H H'') (E : Ext H μ w H' μ' w') : Fresh μ' H' H'' := fun b h1 h2 => by
  cases hb : μ' b with
  | none => rfl
  | some e =>
    rcases E.new b e hb with g | ⟨_, _, g⟩
    · have := E.next; rw [hf b (by omega) h2] at g; cases g
    · omega
theorem fresh_le {H' H'' : AH} (hf : Fresh μ H H'') (hle : H'.next ≤ H''.next) : Fresh μ H H' := fun b h1 h2 => hf b h1 (Nat.lt_of_lt_of_le h2 hle)

/-- What is asked behind a piece of code that the abstract machine has left in state r. -/
theorem stepR_scope {P : Program} {b : Frame} {a : Act} {k : List Item} {cs : List Frame} {w : World} {c : Code} : step P (lone (b.atR a (.code (.scope c) :: k)) cs w) = .next (lone (b.atR a (.code c :: .inScope c :: k)) cs w) :=
  step_lone_go (by simp [stepG, stepG.exec, Frame.atR])
theorem stepR_inScope {P : Program} {b : Frame} {a : Act} {k : List Item} {cs : List Frame} {w : World} {c : Code} : step P (lone (b.atR a (.inScope c :: k)) cs w) = .next (lone (b.atR a k) cs w) :=
  step_lone_go (by simp [stepG, stepG.exec, Frame.atR])
/-- A scope that no jump leaves or stays in. -/
theorem wpIn_scope {F : Fence} {n : Nat} {P : Program} {Q : Exit → Act → World → Prop} {a : Act} {w : World} {c : Code} (h : c.wpIn F n P (fun e a w => (∀ l, e ≠ .goto l) ∧ Q e a w) a w) : (Code.scope c).wpIn F n P Q a w := by
  intro b k cs hro hb hr
  have h0 : (lone (b.atR a (.code (.scope c) :: k)) cs w).fenced P F := fenced_calm hb hr rfl
  obtain ⟨e, a₁, w₁, ⟨hg, hq⟩, harr⟩ := h b (.inScope c :: k) cs hro hb hr
  cases e with
  | normal => exact ⟨.normal, a₁, w₁, hq, .head h0 stepR_scope (StepsIn.trans harr (.one (fenced_calm hb hr rfl) stepR_inScope))⟩
  | exit id' =>
    have hx : exitTo id' (.inScope c :: k) = exitTo id' k := by simp [exitTo]
    exact ⟨.exit id', a₁, w₁, hq, fun k' hk => .head h0 stepR_scope (harr.1 k' (by rw [hx]; exact hk)),
      fun hr' hk => let ⟨k₁, h1, h2⟩ := harr.2 hr' (by rw [hx]; exact hk); ⟨k₁, h1, .head h0 stepR_scope h2⟩⟩
  | goto l => exact absurd rfl (hg l)
  | ret => exact ⟨_, a₁, w₁, hq, .of_steps (.one h0 stepR_scope) harr⟩
  | panic ch => exact ⟨_, a₁, w₁, hq, .of_steps (.one h0 stepR_scope) harr⟩
  | outgrown => exact ⟨_, a₁, w₁, hq, .of_steps (.one h0 stepR_scope) harr⟩

def Behind (tt : TT) (B N L : Nat) (H : AH) (μ : Mu) (w : World) (r : Res) (Q : Exit → Act → World → Prop) : Prop :=
  ∀ a' w' μ', FR N μ' r.τ a'.tmps → DF L μ' a'.defers w' → HR (ckRel tt) B r.H μ' w' → Ext H μ w r.H μ' w' → Q (exitOf r.ex) a' w'

theorem least {p : Nat → Prop} {n : Nat} (h : p n) : ∃ m, p m ∧ (∀ k, k < m → ¬ p k) ∧ m ≤ n := by
  induction n using Nat.strongRecOn with
  | _ n ih =>
    by_cases hk : ∃ k, k < n ∧ p k
    · obtain ⟨k, h1, h2⟩ := hk
      obtain ⟨m, g1, g2, g3⟩ := ih k h1 h2
      exact ⟨m, g1, g2, by omega⟩
    · exact ⟨n, h, fun k hk' hp => hk ⟨k, hk', hp⟩, Nat.le_refl _⟩

/-- The loop's rule, for an invariant that counts down. -/
theorem wpIn_loop_down {F : Fence} {n : Nat} {Q : Exit → Act → World → Prop} {c : Code} (I : Nat → Act → World → Prop) {k : Nat} {a : Act} (h0 : I k a w)
    (round : ∀ j a w, I j a w → c.wpIn F n P (Exit.then (fun a' w' => ∃ i, i < j ∧ I i a' w') Q) a w) : (Code.loop c).wpIn F n P Q a w := by
  classical
  have hex : ∀ {a w}, (∃ j, I j a w) → ∃ m, I m a w ∧ ∀ k, k < m → ¬ I k a w := fun {a w} ⟨j, hj⟩ => by
    obtain ⟨m, h1, h2, _⟩ := least (p := fun j => I j a w) hj
    exact ⟨m, h1, h2⟩
  let M : Act → World → Nat := fun a w => if h : ∃ j, I j a w then Classical.choose (hex h) else 0
  have hM : ∀ a w, (h : ∃ j, I j a w) → I (M a w) a w ∧ ∀ k, k < M a w → ¬ I k a w := fun a w h => by
    have := Classical.choose_spec (hex h)
    show I (if h : ∃ j, I j a w then Classical.choose (hex h) else 0) a w ∧ ∀ k, k < (if h : ∃ j, I j a w then Classical.choose (hex h) else 0) → ¬ I k a w
    rw [dif_pos h]; exact this
  refine wpIn_loop (fun a w => ∃ j, I j a w) M ⟨k, h0⟩ fun a w h => ?_
  obtain ⟨g1, g2⟩ := hM a w h
  refine wpIn_mono (round (M a w) a w g1) fun e a' w' he => ?_
  cases e with
  | normal =>
    obtain ⟨i, hi, hI⟩ := he
    refine ⟨⟨i, hI⟩, ?_⟩
    obtain ⟨k1, k2⟩ := hM a' w' ⟨i, hI⟩
    apply Classical.byContradiction
    intro hn
    exact k2 i (by omega) hI
  | _ => exact he

/-- A round's state, told by its number. -/
theorem stNum_busy {s : LoopState} {n : Nat} (h : stNum s = n) (hn : n ≠ 1) : s ≠ .busy := by rintro rfl; exact hn h.symm

theorem code_sound (hT : TTok tt P) (hm : P.follows .mixedOrders = true) {O : AV → List AV → AH → Option Res} (hO : ∀ v args H r, O v args H = some r → AE H r.H) (FT : Nat → Option IFunc) {m : Nat} (hR : ∀ k, k ≤ m → RecOK (ckRel tt) P (ev O FT k)) :
    ∀ (c : ICode) {nest : Bool} {N : Nat} {code : Code}, ckC tt nest N c code = true → ∀ {k : Nat}, k ≤ m → ∀ {τ : Fr AV} {H : AH} {r : Res} {μ : Mu} {a : Act} {w : World} {F : Fence} {Q : Exit → Act → World → Prop}, FW F → (nest = false → F.round = none) →
      FR N μ τ a.tmps → DF L μ a.defers w → HR (ckRel tt) B H μ w → Fresh μ H r.H → evCode (ev O FT k) c τ H = some r → Behind tt B N L H μ w r Q → code.wpIn F 0 P Q a w := by
  intro c
  induction c with
  | skip =>
    intro nest N code hck k hk τ H r μ a w F Q hW hro hF hD h hfr hev hQ
    cases code <;> simp [ckC] at hck
    all_goals cases hev
    · exact wpIn_skip (hQ a w μ hF hD h (Ext.refl H μ w))
    · exact wpIn_label (hQ a w μ hF hD h (Ext.refl H μ w))
  | ret =>
    intro nest N code hck k hk τ H r μ a w F Q hW hro hF hD h hfr hev hQ
    cases code <;> simp [ckC] at hck
    cases hev
    exact wpIn_ret (hQ a w μ hF hD h (Ext.refl H μ w))
  | scope c ih =>
    intro nest N code hck k hk τ H r μ a w F Q hW hro hF hD h hfr hev hQ
    cases code <;> simp [ckC] at hck
    refine wpIn_scope (ih hck hk hW hro hF hD h hfr hev fun a' w' μ' g1 g2 g3 g4 => ⟨fun l hl => ?_, hQ a' w' μ' g1 g2 g3 g4⟩)
    cases hx : r.ex <;> rw [hx] at hl <;> cases hl
  | stuck =>
    intro nest N code hck k hk τ H r μ a w F Q hW hro hF hD h hfr hev hQ
    cases hev
  | exit id =>
    intro nest N code hck k hk τ H r μ a w F Q hW hro hF hD h hfr hev hQ
    cases code <;> simp [ckC] at hck
    cases hev
    rw [← hck]
    exact wpIn_exit (hQ a w μ hF hD h (Ext.refl H μ w))
  | region os =>
    intro nest N code hck k hk τ H r μ a w F Q hW hro hF hD h hfr hev hQ
    cases code <;> try (simp [ckC] at hck; done)
    rename_i id ops draw
    cases draw <;> simp [ckC] at hck
    have hev : (evOps (ev O FT k) os τ H).obind (fun p => some ({ ex := .normal, τ := p.1, H := p.2 } : Res)) = some r := hev
    obtain ⟨p, h1, h2⟩ := obind_eq_some.1 hev
    cases h2
    obtain ⟨g1, g2⟩ := ckOps_sound hck
    refine wpIn_region ?_
    rw [List.range_eq_range', show ops.size = os.length from by rw [g1]; simp]
    refine ops_sound hT (hR k hk) hW os 0 (by simp [g1]) (fun i x o hx ho => g2 i x o hx (by simpa using ho)) h1 hF h hfr fun a' w' μ' q1 q2 q3 q4 => hQ a' w' μ' q1 ?_ q3 q4
    rw [q2]; exact hD.ext q4
  | draw os two =>
    intro nest N code hck k hk τ H r μ a w F Q hW hro hF hD h hfr hev hQ
    cases code <;> try (simp [ckC] at hck; done)
    rename_i id ops draw
    cases draw <;> simp [ckC] at hck
    have hev : eDraw (ev O FT k) os two τ H = some r := hev
    have hex : r.ex = .normal := by
      unfold eDraw at hev
      obtain ⟨_, _, hev⟩ := obind_eq_some.1 hev
      obtain ⟨_, _, hev⟩ := obind_eq_some.1 hev
      cases hev; rfl
    refine draw_sound hT (hR k hk) (ev_AE hO FT k) (ckDraw_sound hck) hm hev hF h hfr hW fun a' w' μ' q1 q2 q3 q4 => ?_
    have := hQ a' w' μ' q1 (by rw [q2]; exact hD.ext q4) q3 q4
    rw [hex] at this; exact this
  | seq c1 c2 ih1 ih2 =>
    intro nest N code hck k hk τ H r μ a w F Q hW hro hF hD h hfr hev hQ
    cases code <;> simp [ckC] at hck
    have hev : (evCode (ev O FT k) c1 τ H).obind (fun r => eThen r (evCode (ev O FT k) c2)) = some r := hev
    obtain ⟨q, h1, h2⟩ := obind_eq_some.1 hev
    have ae1 := evCode_AE (ev_AE hO FT k) c1 h1
    have stop : r = q → q.ex ≠ .normal → ∀ a' w' μ', FR N μ' q.τ a'.tmps → DF L μ' a'.defers w' → HR (ckRel tt) B q.H μ' w' → Ext H μ w q.H μ' w' → Q (exitOf q.ex) a' w' := by
      intro e _; subst e; exact hQ
    unfold eThen Ex.el at h2
    cases hq : q.ex with
    | normal =>
      rw [hq] at h2
      have n2 := evCode_next (ev_monoL O FT k) c2 h2
      refine wpIn_seq (ih1 hck.1 hk hW hro hF hD h (fresh_le hfr n2) h1 fun a' w' μ' k1 k2 k3 k4 => ?_)
      rw [hq]
      refine ih2 hck.2 hk hW hro k1 k2 k3 (fresh_trans hfr k4) h2 fun a'' w'' μ'' g1 g2 g3 g4 => hQ a'' w'' μ'' g1 g2 g3 (k4.trans g4 (fresh_le hfr n2) k3.top)
    | exit id =>
      rw [hq] at h2; cases h2
      refine wpIn_seq (ih1 hck.1 hk hW hro hF hD h hfr h1 fun a' w' μ' k1 k2 k3 k4 => ?_)
      have := hQ a' w' μ' k1 k2 k3 k4
      rw [hq] at this ⊢; exact this
    | ret =>
      rw [hq] at h2; cases h2
      refine wpIn_seq (ih1 hck.1 hk hW hro hF hD h hfr h1 fun a' w' μ' k1 k2 k3 k4 => ?_)
      have := hQ a' w' μ' k1 k2 k3 k4
      rw [hq] at this ⊢; exact this
  | cond x c1 c2 ih1 ih2 =>
    intro nest N code hck k hk τ H r μ a w F Q hW hro hF hD h hfr hev hQ
    cases code <;> simp [ckC] at hck
    obtain ⟨hc0, hc1, hc2⟩ := hck
    have hev : (x.ev τ).boolK (fun t => ifb t (evCode (ev O FT k) c1 τ H) (evCode (ev O FT k) c2 τ H)) = some r := hev
    obtain ⟨t, e1, e2, e3⟩ := (ckO_sound hF hc0).bool hev
    refine wpIn_cond e2 ?_
    cases t
    · exact ih2 hc2 hk hW hro hF hD h hfr e3 hQ
    · exact ih1 hc1 hk hW hro hF hD h hfr e3 hQ
  | block id c ih =>
    intro nest N code hck k hk τ H r μ a w F Q hW hro hF hD h hfr hev hQ
    cases code <;> simp [ckC] at hck
    obtain ⟨hid, hck⟩ := hck
    subst hid
    have hev : (evCode (ev O FT k) c τ H).obind (eEnd id) = some r := hev
    obtain ⟨q, h1, h2⟩ := obind_eq_some.1 hev
    have hH : r.H = q.H ∧ r.τ = q.τ ∧ (exitOf r.ex = match q.ex with | .normal => Exit.normal | .exit i => if i = id then Exit.normal else .exit i | .ret => Exit.ret) := by
      unfold eEnd Ex.el at h2
      cases hq : q.ex with
      | normal => rw [hq] at h2; cases h2; exact ⟨rfl, rfl, by rw [hq]; rfl⟩
      | ret => rw [hq] at h2; cases h2; exact ⟨rfl, rfl, by rw [hq]; rfl⟩
      | exit i =>
        rw [hq] at h2
        have h2 : ifb (Nat.beq i id) (some { q with ex := .normal }) (some q) = some r := h2
        rw [ifb_eq] at h2
        split at h2
        · rename_i hi; have hi : i = id := by simpa using hi
          cases h2; exact ⟨rfl, rfl, by simp [hi, exitOf]⟩
        · rename_i hi; have hi : i ≠ id := by simpa using hi
          cases h2; exact ⟨rfl, rfl, by rw [hq]; simp [hi, exitOf]⟩
    obtain ⟨hH, hτ, he⟩ := hH
    rw [hH] at hfr
    refine wpIn_block (ih hck hk hW hro hF hD h hfr h1 fun a' w' μ' k1 k2 k3 k4 => ?_)
    have := hQ a' w' μ' (hτ ▸ k1) k2 (hH ▸ k3) (hH ▸ k4)
    rw [he] at this
    cases hq : q.ex with
    | normal => rw [hq] at this; exact this
    | ret => rw [hq] at this; exact this
    | exit i =>
      rw [hq] at this
      show (if i = id then Q .normal a' w' else Q (.exit i) a' w')
      have this : Q (if i = id then Exit.normal else .exit i) a' w' := this
      split
      · rename_i hi; rw [if_pos hi] at this; exact this
      · rename_i hi; rw [if_neg hi] at this; exact this
  | loop c ih =>
    intro nest N code hck k hk τ H r μ a w F Q hW hro hF hD h hfr hev hQ
    cases code <;> simp [ckC] at hck
    rename_i x
    refine wpIn_loop_down (fun j a' w' => ∃ τ' H' μ', j ≤ m ∧ FR N μ' τ' a'.tmps ∧ DF L μ' a'.defers w' ∧ HR (ckRel tt) B H' μ' w' ∧ Ext H μ w H' μ' w' ∧ H'.next ≤ r.H.next ∧ eLoop (ev O FT j) c (evCode (ev O FT j) c) τ' H' = some r) (k := k)
      ⟨τ, H, μ, hk, hF, hD, h, Ext.refl H μ w, (evCode_AE (ev_AE hO FT k) (.loop c) (show evCode (ev O FT k) (.loop c) τ H = some r from hev)).next, hev⟩ ?_
    intro j a' w' ⟨τ', H', μ', hj, hF', hD', h', E', hle, hev'⟩
    have hev' : (evCode (ev O FT j) c τ' H').obind (fun r => eThen r fun τ H => ev O FT j (.loop c τ H)) = some r := hev'
    obtain ⟨q, h1, h2⟩ := obind_eq_some.1 hev'
    have hfr' := fresh_trans hfr E'
    unfold eThen Ex.el at h2
    cases hq : q.ex with
    | normal =>
      rw [hq] at h2
      have n2 := ev_monoL O FT j _ _ _ _ h2
      refine ih hck hj hW hro hF' hD' h' (fresh_le hfr' n2) h1 fun a'' w'' μ'' k1 k2 k3 k4 => ?_
      rw [hq]
      cases j with
      | zero => cases h2
      | succ j =>
        exact ⟨j, by omega, q.τ, q.H, μ'', by omega, k1, k2, k3, E'.trans k4 (fresh_le hfr hle) h'.top, n2, h2⟩
    | exit id =>
      rw [hq] at h2; cases h2
      refine ih hck hj hW hro hF' hD' h' hfr' h1 fun a'' w'' μ'' k1 k2 k3 k4 => ?_
      have := hQ a'' w'' μ'' k1 k2 k3 (E'.trans k4 (fresh_le hfr hle) h'.top)
      rw [hq] at this ⊢; exact this
    | ret =>
      rw [hq] at h2; cases h2
      refine ih hck hj hW hro hF' hD' h' hfr' h1 fun a'' w'' μ'' k1 k2 k3 k4 => ?_
      have := hQ a'' w'' μ'' k1 k2 k3 (E'.trans k4 (fresh_le hfr hle) h'.top)
      rw [hq] at this ⊢; exact this
  | rangeFunc f ps asg body _ _ =>
    intro nest N code hck k hk τ H r μ a w F Q hW hro hF hD h hfr hev hQ
    cases code <;> simp [ckC] at hck
    rename_i g qs x y
    obtain ⟨hnest, hf, hps, hpN, hca, hcb⟩ := hck
    have hev : eRange (ev O FT k) f ps asg body τ H = some r := hev
    unfold eRange at hev
    rw [ifb_none_eq_some] at hev
    obtain ⟨hfn, hev⟩ := hev
    unfold eRange1 at hev
    obtain ⟨q, hq, hev⟩ := obind_eq_some.1 hev
    rw [ifb_none_eq_some] at hev
    obtain ⟨hle, hev⟩ := hev
    have hle := Nat.le_of_ble_eq_true hle
    obtain ⟨xb, hxb, hev⟩ := obind_eq_some.1 hev
    unfold eRange2 at hev
    obtain ⟨st, pend, τ', ps', asg', body', ex, hev'⟩ := loopK_some hev
    subst ex
    clear hev
    -- what becomes of the record
    have hfin : ∃ (e : Option Ex), st ≠ 1 ∧ pend = e ∧ r.ex = e.getD .normal ∧ r.τ = τ ∧ r.H = q.H.setB H.next (.loop 3 e τ' ps' asg' body') := by
      rw [ifb_eq] at hev'
      split at hev'
      · rename_i h0; have h0 : st = 0 := by simpa using h0
        cases pend with
        | none => cases hev'; exact ⟨none, by omega, rfl, rfl, rfl, rfl⟩
        | some e => cases hev'
      · rw [ifb_none_eq_some] at hev'
        obtain ⟨h0, hev'⟩ := hev'
        have h0 : st = 2 := by simpa using h0
        obtain ⟨e, he, hev'⟩ := obind_eq_some.1 hev'
        cases hev'; exact ⟨some e, by omega, he, rfl, rfl, rfl⟩
    obtain ⟨pe, hst, hpe, hex, hτ, hH⟩ := hfin
    subst hpe
    have hfr0 : μ H.next = none := hfr H.next (Nat.le_refl _) (by rw [hH]; simp; omega)
    -- the function
    have hfv := ckO_sound hF hf
    generalize hfe : f.ev τ = fv at hfv hfn hq
    cases fv <;> simp [isFn, AV.el] at hfn
    rename_i kf first cap
    obtain ⟨fs, cs, e1, e2, e3⟩ := hfv
    refine wpIn_rangeFunc fun fn _ => ?_
    have hro' := hro (by simpa using hnest)
    rw [hro']
    -- the two blocks
    obtain ⟨h0, E0⟩ := own_alloc (ckRel tt) h (some [])
    let lp : Loop := { state := .ready, pending := none, fn, tmps := a.tmps, params := qs, assign := x, body := y, defers := w.heap.size }
    have hs0 : (w.alloc (.deferred (some []))).heap.size = w.heap.size + 1 := by show (w.heap.push _).size = _; simp
    obtain ⟨h1, E1⟩ := alloc_sound (w' := (w.alloc (.deferred (some []))).alloc (.loop lp)) h0 hfr0 (.loop lp) (.loop 0 none τ ps asg body) 0 rfl ⟨lp, N, World.alloc_heap_new _ _, rfl, rfl, hF.mono (μ.le_add _ _ hfr0), hpN, hps, hca, hcb⟩ rfl
    rw [hs0] at h1 E1
    have hvs : VRs (μ.add H.next ⟨w.heap.size + 1, 0, 0⟩) (first ++ [.yld H.next] ++ cap) (fs ++ #[Value.func (.yield (w.heap.size + 1)) #[] #[]] ++ cs).toList := by
      simp only [Array.toList_append]
      exact ((e2.mono (μ.le_add _ _ hfr0)).append (VRs.single (show VR (μ.add H.next ⟨w.heap.size + 1, 0, 0⟩) (.yld H.next) (Value.func (.yield (w.heap.size + 1)) #[] #[]) from ⟨_, Mu.add_same _ _ _, rfl⟩))).append (e3.mono (μ.le_add _ _ hfr0))
    have hqn : q.H.next = r.H.next := by rw [hH]; simp
    have hfr1 : Fresh (μ.add H.next ⟨w.heap.size + 1, 0, 0⟩) (H.alloc (.loop 0 none τ ps asg body)) q.H := fun b g1 g2 => by
      simp at g1
      unfold Mu.add; rw [if_neg (by omega)]
      exact hfr b (by omega) (by omega)
    obtain ⟨⟨pf, f1, f2, f3⟩, hcall⟩ := (hR k hk).call hq h1 hvs hfr1
    refine ⟨w.heap.size + 1, [{ target := .collected w.heap.size, args := #[] }], ((w.alloc (.deferred (some []))).alloc (.loop lp)), { target := .fn (.func kf) cs, args := fs ++ #[Value.func (.yield (w.heap.size + 1)) #[] #[]] }, ((w.alloc (.deferred (some []))).alloc (.loop lp)), kf, fs ++ #[Value.func (.yield (w.heap.size + 1)) #[] #[]] ++ cs, ((w.alloc (.deferred (some []))).alloc (.loop lp)), run_enterLoop_outer fn a.tmps qs x y, ?_, fun f' _ => hW.fn f', ?_, fun hh => (by rw [hW.depth] at hh; cases hh), hcall F _ hW fun v w' μ' k1 k2 k3 => ?_⟩
    · unfold resolve
      simp only
      rw [e1]
      simp [Deferred.ofValue, Act.eval]
    · obtain ⟨bd, hnb⟩ := Option.isSome_iff_exists.1 f2
      have f3' : ¬ pf.name = "runtime.NumGoroutine" := by simpa using f3
      simp [invoke, callFunc, run_program, f1, f3', hnb]
    · have hl : μ' H.next = some ⟨w.heap.size + 1, 0, 0⟩ := k3.le _ _ (Mu.add_same _ _ _)
      obtain ⟨lp', N', b1, b2, b3, b4⟩ := k2.blk _ _ _ hl hxb
      have b1 : w'.heap[w.heap.size + 1]? = some (.loop lp') := b1
      have aeq := (ev_AE hO FT k).call _ _ _ _ hq
      have hmay : q.H.may H.next = true := by
        rw [may_perm aeq.perm, AH.may_alloc]
        exact AH.may_iff.2 (.inl h.lim)
      obtain ⟨u1, u2⟩ := upd_sound (w' := w'.putObj (w.heap.size + 1) (.loop { lp' with state := .exhausted })) k2 hl hxb rfl hmay (x' := .loop 3 pend τ' ps' asg' body') rfl World.putObj_size (fun c hc => World.putObj_heap_other hc) ⟨_, N', World.putObj_heap_same (Array.getElem?_eq_some_iff.1 b1).1, rfl, b3, b4⟩
      have hend := run_endLoop (P := P) b1 (stNum_busy b2 hst)
      generalize w'.putObj (w.heap.size + 1) (.loop { lp' with state := .exhausted }) = w₄ at u1 u2 hend
      refine ⟨_, _, hend, ?_⟩
      rw [b3]
      have E2 : Ext H μ w (H.alloc (.loop 0 none τ ps asg body)) (μ.add H.next ⟨w.heap.size + 1, 0, 0⟩) ((w.alloc (.deferred (some []))).alloc (.loop lp)) := E0.trans E1 (fun b g1 g2 => by omega) h0.top
      have E3 : Ext H μ w q.H μ' w' := E2.trans k3 (fun b g1 g2 => hfr b g1 (by simp at g2; omega)) h1.top
      have E4 : Ext H μ w r.H μ' w₄ := by
        rw [hH]; exact E3.trans u2 (fun b g1 g2 => hfr b g1 (by omega)) k2.top
      have hD1 : DF L (μ.add H.next ⟨w.heap.size + 1, 0, 0⟩) ({ target := .collected w.heap.size, args := #[] } :: a.defers) ((w.alloc (.deferred (some []))).alloc (.loop lp)) := by
        obtain ⟨d0, rs, d1, d2, d3⟩ := hD.ext E2
        obtain ⟨c0, rs0, c1, c2, c3⟩ := hD
        have hrs : rs = rs0 := by
          have : rs.map Target.collected = rs0.map Target.collected := d1.symm.trans c1
          exact (List.map_inj_right (fun _ _ h => by cases h; rfl)).1 this
        subst hrs
        refine ⟨d0, w.heap.size :: rs, by simp [d1], List.nodup_cons.2 ⟨fun hm => ?_, d2⟩, fun r' hr' => ?_⟩
        · have := (Array.getElem?_eq_some_iff.1 (c3 _ hm).2.1).1; omega
        · rcases List.mem_cons.1 hr' with rfl | hr'
          · refine ⟨c0, ?_, fun b e hb he => ?_⟩
            · show (((w.heap.push (.deferred (some []))).push (.loop lp)))[w.heap.size]? = _
              rw [Array.getElem?_push_lt (by simp)]; simp
            · unfold Mu.add at hb
              split at hb
              · cases hb; simp at he
              · have := h.ins b e hb; omega
          · exact d3 r' hr'
      have hD4 : DF L μ' ({ target := .collected w.heap.size, args := #[] } ::  a.defers) w₄ := (hD1.ext k3).ext u2
      have hQ' := hQ { a with defers := [{ target := .collected w.heap.size, args := #[] }] ++ a.defers } _ μ' (by rw [hτ]; exact hF.mono E4.le) hD4 (by rw [hH]; exact u1) E4
      rw [hex] at hQ'
      cases pend with
      | none => exact hQ'
      | some e =>
        cases e with
        | normal => exact wpIn_skip hQ'
        | exit id => exact wpIn_exit hQ'
        | ret => exact wpIn_ret hQ'
end
end Go.Ai
