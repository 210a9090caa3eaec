/- Calls are sound. -/
import Derived.Test.YtebmoofioikenaaGreatDoorAi20
namespace Go.Ai
open Go

section
variable {tt : TT} {CR : CRel} {B N L : Nat} {P : Program} {H : AH} {μ : Mu} {w : World} {τ : Fr AV}

/-! ### Frames at the start -/
theorem frameOf_get : ∀ (l : List AV) (i : Pth) (τ : Fr AV) (q : Pth), (frameOf l i τ).get q = if i.num ≤ q.num ∧ q.num < i.num + l.length then l[q.num - i.num]? else τ.get q
  | [], i, τ, q => by
    rw [if_neg (by simp)]; rfl
  | v :: l, i, τ, q => by
    show (frameOf l i.succ (τ.put i v)).get q = _
    rw [frameOf_get l, Pth.num_succ, Fr.get_put]
    simp only [List.length_cons]
    by_cases h1 : q = i
    · subst h1
      rw [if_neg (by omega), if_pos rfl, if_pos (by omega)]; simp
    · have hne : q.num ≠ i.num := fun h => h1 (Pth.num_inj h)
      rw [if_neg h1]
      by_cases h2 : i.num + 1 ≤ q.num ∧ q.num < i.num + 1 + l.length
      · rw [if_pos h2, if_pos (by omega), show q.num - i.num = (q.num - (i.num + 1)) + 1 from by omega]; simp
      · rw [if_neg h2, if_neg (by omega)]

theorem FR.start {vals : List AV} {vs : Array Value} (h : VRs μ vals vs.toList) (N : Nat) : FR N μ (frameOf vals .e .nil) (vs ++ Array.replicate (N - vs.size) undef) := by
  refine ⟨by simp; omega, fun p => ?_⟩
  rw [frameOf_get]
  have hl := h.length
  have hl : vs.size = vals.length := by simpa using hl
  by_cases hp : Pth.e.num ≤ p.num ∧ p.num < Pth.e.num + vals.length
  · rw [if_pos hp]
    have e0 : Pth.e.num = 0 := rfl
    rw [e0] at hp ⊢
    have hlt : p.num < vals.length := by omega
    obtain ⟨y, h1, h2⟩ := h.get (i := p.num) (x := vals[p.num]) (by simp [hlt])
    have h1 : vs[p.num]? = some y := by simpa using h1
    rw [Array.getD_eq_getD_getElem?, Array.getElem?_append_left (by omega), h1]
    simpa [hlt, Option.ogetU, oget] using h2
  · rw [if_neg hp, Fr.get_nil]; trivial

/-! ### Results -/
theorem run_asAddr (p : Addr) : (asAddr (.pointer (some p))).run P w = .ok p w := by simp [asAddr]

def resRun (tmps : Array Value) (r : ResultVar) : Sem Value :=
  match r with
  | .tmp t => pure (tmps.getD t undef)
  | .cell a t => do loadVar t (← asAddr (tmps.getD a undef))

theorem res_sound (hT : TTok tt P) {tmps : Array Value} (hF : FR N μ τ tmps) (h : HR CR B H μ w) {x : IRes} {y : ResultVar} {u : Unit} (hc : ckRes tt x y = some u) {v : AV} (hr : resV τ H x = some v) : ∃ z, (resRun tmps y).run P w = .ok z w ∧ VR μ v z := by
  cases x with
  | tmp p =>
    cases y with
    | cell a t => simp [ckRes] at hc
    | tmp t =>
      have hc : yes? (Nat.beq p.num t) = some u := hc
      rw [yes?_some] at hc
      have hc : p.num = t := by simpa using hc
      subst hc
      cases hr
      exact ⟨_, by simp [resRun], hF.2 p⟩
  | cell p agg =>
    cases y with
    | tmp t => cases agg <;> simp [ckRes] at hc
    | cell a t =>
      cases agg with
      | none =>
        have hc : onT tt t (fun s => yes? (Nat.beq p.num a && !isAggD s.desc)) = some u := hc
        obtain ⟨s, i, g1, g2, g3, g4, g5, g6⟩ := onT_some hT hc
        rw [yes?_some] at g6; simp only [Bool.and_eq_true] at g6
        have h1 : p.num = a := by simpa using g6.1
        subst h1
        have hr : ((τ.get p).ogetU).ptrK (fun b o => H.ld1 b o) = some v := hr
        obtain ⟨c, o, e, e1, e2, e3, e4⟩ := (hF.2 p).ptrE hr
        obtain ⟨z, z1, z2⟩ := ld1_sound h e2 e4
        refine ⟨z, ?_, z1⟩
        have := run_loadVar_one (P := P) (w := w) g1 (by simpa using g6.2) _ z2
        simp [resRun, e3, run_asAddr, this]
      | some n =>
        have hc : onT tt t (fun s => yes? (Nat.beq p.num a && (isAggD s.desc && Nat.beq s.size n))) = some u := hc
        obtain ⟨s, i, g1, g2, g3, g4, g5, g6⟩ := onT_some hT hc
        rw [yes?_some] at g6; simp only [Bool.and_eq_true] at g6
        have h1 : p.num = a := by simpa using g6.1
        have h2 : s.size = n := by simpa using g6.2.2
        subst h1
        have hr : ((τ.get p).ogetU).ptrK (fun b o => (H.ld b o n).obind fun vs => some (.agg vs)) = some v := hr
        obtain ⟨c, o, e, e1, e2, e3, e4⟩ := (hF.2 p).ptrE hr
        obtain ⟨vs, l1, l2⟩ := obind_eq_some.1 e4
        cases l2
        obtain ⟨ys, y1, y2, y3⟩ := ld_sound h e2 l1
        have hl := run_loadCells_ld (P := P) e o n ys y2 y3
        have := run_loadVar_agg (P := P) (w := w) g1 g6.2.1 g2 ⟨e.c, e.d + o, none⟩ (ys := ys.toArray) (by rw [g3, h2]; exact hl)
        refine ⟨.agg ys.toArray, ?_, _, rfl, by simpa using y1⟩
        simp [resRun, e3, run_asAddr, this]

theorem ress_sound (hT : TTok tt P) {tmps : Array Value} (hF : FR N μ τ tmps) (h : HR CR B H μ w) : ∀ {xs : List IRes} {ys : List ResultVar} {vs : List AV}, ckRess tt xs ys = true → resVs τ H xs = some vs → ∃ zs : List Value, (ys.mapM (resRun tmps)).run P w = .ok zs w ∧ VRs μ vs zs
  | [], [], vs, _, hr => by cases hr; exact ⟨[], by simp, rfl⟩
  | x :: xs, y :: ys, vs, hc, hr => by
    simp only [ckRess, Bool.and_eq_true] at hc
    obtain ⟨u, hu⟩ := Option.isSome_iff_exists.1 hc.1
    have hr : (resV τ H x).obind (fun v => (resVs τ H xs).obind fun vs => some (v :: vs)) = some vs := hr
    obtain ⟨v, r1, hr⟩ := obind_eq_some.1 hr
    obtain ⟨vs', r2, hr⟩ := obind_eq_some.1 hr
    cases hr
    obtain ⟨z, z1, z2⟩ := res_sound hT hF h hu r1
    obtain ⟨zs, s1, s2⟩ := ress_sound hT hF h hc.2 r2
    exact ⟨z :: zs, by simp [List.mapM_cons, z1, s1], z, zs, rfl, z2, s2⟩
  | [], _ :: _, _, hc, _ => by simp [ckRess] at hc
  | _ :: _, [], _, hc, _ => by simp [ckRess] at hc

theorem results_sound (hT : TTok tt P) {tmps : Array Value} (hF : FR N μ τ tmps) (h : HR CR B H μ w) {pf : Func} {xs : List IRes} {vs : List AV} (hc : ckRess tt xs pf.results.toList = true) (hr : resVs τ H xs = some vs) :
    ∃ z, (results pf tmps).run P w = .ok z w ∧ VR μ (tupV vs) z := by
  obtain ⟨zs, h1, h2⟩ := ress_sound hT hF h hc hr
  have hm : (pf.results.mapM (resRun tmps)).run P w = .ok zs.toArray w := by
    rw [Array.mapM_eq_mapM_toList]; simp [h1]
  have e : (results pf tmps).run P w = .ok (if h : zs.toArray.size = 1 then zs.toArray[0] else .tuple zs.toArray) w := by
    have e' : results pf tmps = (do let vs ← pf.results.mapM (resRun tmps); pure (if h : vs.size = 1 then vs[0] else .tuple vs)) := by
      unfold results resRun; rfl
    rw [e', Sem.run_bind, hm]; simp
  rw [e]
  refine ⟨_, rfl, ?_⟩
  have hl := h2.length
  match vs, zs, h2 with
  | [], zs, h2 =>
    cases h2
    exact ⟨#[], rfl, rfl⟩
  | [v], zs, h2 =>
    obtain ⟨y, r, e1, g1, g2⟩ := h2
    cases g2; subst e1
    exact g1
  | v :: v' :: vs, zs, h2 =>
    have hl := h2.length
    simp only [List.length_cons] at hl
    rw [dif_neg (by simp; omega)]
    exact ⟨zs.toArray, rfl, by simpa using h2⟩

/-! ### Leaving -/
theorem own_put {H₀ : AH} {μ₀ : Mu} {w₀ : World} (h : HR CR B H μ w) (E : Ext H₀ μ₀ w₀ H μ w) {r : Nat} {ds : Option (List Deferred)} (_ : w.heap[r]? = some (.deferred ds)) (hr : ∀ b e, μ b = some e → e.c ≠ r) (hL : w₀.heap.size ≤ r) : HR CR B H μ (w.putObj r (.deferred none)) ∧ Ext H₀ μ₀ w₀ H μ (w.putObj r (.deferred none)) :=
  ⟨⟨fun b e x hb hv => (h.blk b e x hb hv).heap (World.putObj_heap_other (hr b e hb)), h.sep, h.low, fun b e hb => by rw [World.putObj_size]; exact h.ins b e hb, h.top, h.lim, h.hid, h.exc, by rw [World.putObj_size]; exact h.base, h.gl⟩,
    ⟨E.le, E.new, by rw [World.putObj_size]; exact E.size, fun c hc hno => by rw [World.putObj_heap_other (by omega)]; exact E.keep c hc hno, E.img, E.next, E.old, E.oldv, E.os, E.perm⟩⟩

theorem leaves_sound {H₀ : AH} {μ₀ : Mu} {w₀ : World} {F : Fence} {pf : Func} {tmps : Array Value} {R : Ending → World → Prop}
    (hend : ∀ w', HR CR B H μ w' → Ext H₀ μ₀ w₀ H μ w' → ∃ v, (results pf tmps).run P w' = .ok v w' ∧ R (.returned v) w') :
    ∀ (ds : List Deferred) {w : World}, DF w₀.heap.size μ ds w → HR CR B H μ w → Ext H₀ μ₀ w₀ H μ w → LeavesInM F 0 P pf tmps R ds .returning w
  | [], w, _, h, E => hend w h E
  | d :: ds, w, ⟨d0, rs, d1, d2, d3⟩, h, E => by
    cases rs with
    | nil => simp at d1
    | cons r rs =>
      simp only [List.map_cons, List.cons.injEq] at d1
      obtain ⟨g0, g1, g2⟩ := d3 r (by simp)
      obtain ⟨k1, k2⟩ := own_put h E g1 g2 g0
      refine ⟨by simp, .inl ⟨r, w.putObj r (.deferred none), d1.1, run_takeDeferred g1, leaves_sound hend ds ⟨by rw [World.putObj_size]; exact d0, rs, d1.2, (List.nodup_cons.1 d2).2, fun r' hr' => ?_⟩ k1 k2⟩⟩
      obtain ⟨q0, q1, q2⟩ := d3 r' (by simp [hr'])
      exact ⟨q0, by rw [World.putObj_heap_other (by rintro rfl; exact (List.nodup_cons.1 d2).1 hr')]; exact q1, q2⟩

/-! ### Yield's parameters -/
theorem setPs_sound : ∀ {ps : List Pth} {args : List AV} {τ τ' : Fr AV} {qs : List Nat} {vs : List Value} {tmps : Array Value}, setPs ps args τ = some τ' → qs = ps.map Pth.num → (∀ p ∈ ps, p.num < N) → VRs μ args vs → FR N μ τ tmps →
    vs.length = qs.length ∧ FR N μ τ' ((qs.zip vs).foldl (fun tmps x => tmps.setIfInBounds x.1 x.2) tmps)
  | [], [], τ, τ', qs, vs, tmps, hs, hq, _, hv, hF => by
    cases hs; subst hq; cases hv; exact ⟨rfl, hF⟩
  | p :: ps, v :: args, τ, τ', qs, vs, tmps, hs, hq, hN, ⟨y, r, e1, g1, g2⟩, hF => by
    subst hq e1
    have hs : setPs ps args (τ.put p v) = some τ' := hs
    obtain ⟨k1, k2⟩ := setPs_sound hs rfl (fun q hq => hN q (by simp [hq])) g2 (hF.put (hN p (by simp)) g1)
    exact ⟨by simp [k1], by simpa using k2⟩
  | [], _ :: _, _, _, _, _, _, hs, _, _, _, _ => by cases hs
  | _ :: _, [], _, _, _, _, _, hs, _, _, _, _ => by cases hs

theorem callsIn_plain {F : Fence} {n : Nat} {f : FuncId} {args : Array Value} {R : Ending → World → Prop} (h : CallsIn F.plain n P f args w R) : CallsIn F n P f args w R := h

/-- What is asked of an oracle. -/
structure OrOK (CR : CRel) (P : Program) (O : AV → List AV → AH → Option Res) : Prop where
  ae : ∀ v args H r, O v args H = some r → AE H r.H
  shape : ∀ {v args H r}, O v args H = some r → ∃ k first cap, v = .fn k first cap
  call : ∀ {k first cap args H r}, O (.fn k first cap) args H = some r → ∀ {B μ w} {vs : Array Value}, HR CR B H μ w → VRs μ (first ++ args ++ cap) vs.toList → Fresh μ H r.H →
    (∃ fn, P.funcs[k]? = some fn ∧ fn.body.isSome = true ∧ (fn.name == "runtime.NumGoroutine") = false) ∧
    ∀ (F : Fence) (R : Ending → World → Prop), FW F → (∀ v w' μ', VR μ' r.v v → HR CR B r.H μ' w' → Ext H μ w r.H μ' w' → R (.returned v) w') → CallsIn F 0 P k vs w R

theorem OrOK.none (CR : CRel) : OrOK CR P noO := ⟨fun _ _ _ _ h => (by cases h), fun h => (by cases h), fun h => (by cases h)⟩

theorem rec_sound (hT : TTok tt P) (hm : P.follows .mixedOrders = true) {O : AV → List AV → AH → Option Res} (hO : OrOK (ckRel tt) P O) (FT : Nat → Option IFunc) (hFT : ∀ k fn, FT k = some fn → ∃ pf, P.funcs[k]? = some pf ∧ ckFn tt fn pf = true) : ∀ n, RecOK (ckRel tt) P (ev O FT n) := by
  intro n
  induction n using Nat.strongRecOn with
  | _ n ih =>
    cases n with
    | zero => exact ⟨fun h => (by cases h), fun h => (by cases h), fun h => (by cases h)⟩
    | succ n =>
      have hR : ∀ k, k ≤ n → RecOK (ckRel tt) P (ev O FT k) := fun k hk => ih k (by omega)
      refine ⟨fun {v args H r} h => ?_, fun {k first cap args H r} h => ?_, fun {l args H r} h => ?_⟩
      · have h : orElse2 (O v args H) (evCall (ev O FT n) FT v args H) = some r := h
        rcases orElse2_some h with g | ⟨_, g⟩
        · obtain ⟨k, first, cap, e⟩ := hO.shape g; exact .inl ⟨k, first, cap, e⟩
        clear h
        have h := g
        cases v <;> first | (cases h; done) | exact .inl ⟨_, _, _, rfl⟩ | exact .inr ⟨_, rfl⟩
      · intro B μ w vs hh hvs hfr
        have h : orElse2 (O (.fn k first cap) args H) (evFn (ev O FT n) FT k (first ++ args ++ cap) H) = some r := h
        rcases orElse2_some h with g | ⟨_, g⟩
        · exact hO.call g hh hvs hfr
        clear h
        have h := g
        unfold evFn at h
        obtain ⟨fn, hfn, h⟩ := obind_eq_some.1 h
        obtain ⟨q, hq, h⟩ := obind_eq_some.1 h
        obtain ⟨pf, hpf, hck⟩ := hFT k fn hfn
        unfold ckFn at hck
        cases hb : pf.body with
        | none => rw [hb] at hck; cases hck
        | some code =>
          rw [hb] at hck
          simp only [Bool.and_eq_true, Bool.not_eq_true'] at hck
          obtain ⟨hc1, hc2, hc3⟩ := hck
          refine ⟨⟨pf, hpf, by rw [hb]; rfl, hc3⟩, fun F R hW hRR => callsIn_plain ?_⟩
          have hback : r.H = q.H ∧ (q.ex = .normal ∨ q.ex = .ret) ∧ ∃ rv, resVs q.τ q.H fn.results = some rv ∧ r.v = tupV rv := by
            unfold eBack Ex.el at h
            cases hx : q.ex with
            | exit id => rw [hx] at h; cases h
            | normal => rw [hx] at h; obtain ⟨rv, h1, h2⟩ := obind_eq_some.1 h; cases h2; exact ⟨rfl, .inl rfl, rv, h1, rfl⟩
            | ret => rw [hx] at h; obtain ⟨rv, h1, h2⟩ := obind_eq_some.1 h; cases h2; exact ⟨rfl, .inr rfl, rv, h1, rfl⟩
          obtain ⟨hH, hex, rv, hrv, hv⟩ := hback
          rw [hH] at hfr
          refine callsIn_of_wp_marks hpf hb (hW.fn k) (code_sound (L := w.heap.size) hT hm hO.ae FT hR fn.body hc1 (Nat.le_refl n) ⟨hW.fn, hW.depth, hW.alive⟩ (fun _ => rfl) (FR.start hvs pf.ntmps) (DF.nil μ w (Nat.le_refl _)) hh hfr hq fun a' w' μ' k1 k2 k3 k4 => ?_) rfl
          have fin : LeavesInM F.plain 0 P pf a'.tmps R a'.defers .returning w' := by
            refine leaves_sound (H₀ := H) (μ₀ := μ) (w₀ := w) (fun w'' g1 g2 => ?_) a'.defers k2 k3 k4
            obtain ⟨z, z1, z2⟩ := results_sound hT k1 g1 hc2 hrv
            exact ⟨z, z1, hRR z w'' μ' (by rw [hv]; exact z2) (by rw [hH]; exact g1) (by rw [hH]; exact g2)⟩
          rcases hex with hx | hx <;> rw [hx] <;> exact fin
      · intro B μ w e vs hh hme hvs hfr
        have h₀ := h
        have h : orElse2 (O (.yld l) args H) (evYield (ev O FT n) l args H) = some r := h
        rcases orElse2_some h with g | ⟨_, g⟩
        · obtain ⟨k, first, cap, e⟩ := hO.shape g; cases e
        clear h
        have h := g
        have aeR := (ev_AE hO.ae FT (n + 1)).call (.yld l) args H r h₀
        unfold evYield at h
        obtain ⟨x, hx, h⟩ := obind_eq_some.1 h
        obtain ⟨st, pend, τ, ps, asg, body, ex, h'⟩ := loopK_some h
        subst ex
        clear h
        rw [ifb_none_eq_some, ifb_none_eq_some] at h'
        obtain ⟨_, hmay, h'⟩ := h'
        obtain ⟨τ₁, hps, h'⟩ := obind_eq_some.1 h'
        obtain ⟨q, hq, h'⟩ := obind_eq_some.1 h'
        obtain ⟨lp, N, b1, b2, b3, b4, b5, b6, b7, b8⟩ := hh.blk l e _ hme hx
        obtain ⟨s1, s2⟩ := setPs_sound hps b6 b5 hvs b4
        refine ⟨lp, b1, by simpa using s1, fun F R hW hRR => ?_⟩
        have hWl : FW (F.inRound e.c) := ⟨hW.fn, hW.depth, hW.alive⟩
        unfold eRound1 Ex.el at h'
        have hqx : q.ex = .normal := by
          cases hqx : q.ex with
          | normal => rfl
          | exit id => rw [hqx] at h'; cases h'
          | ret => rw [hqx] at h'; cases h'
        rw [hqx] at h'
        obtain ⟨x2, hx2, h'⟩ := obind_eq_some.1 h'
        obtain ⟨st2, pend2, τ2, ps2, asg2, body2, ex2, h2⟩ := loopK_some h'
        subst ex2
        clear h'
        rw [ifb_none_eq_some, ifb_none_eq_some] at h2
        obtain ⟨hst2, hmay2, h2⟩ := h2
        have hst2 : st2 = 0 := by simpa using hst2
        obtain ⟨q2, hq2, h2⟩ := obind_eq_some.1 h2
        unfold eRound2 at h2
        obtain ⟨x3, hx3, h2⟩ := obind_eq_some.1 h2
        obtain ⟨st3, pend3, τ3, ps3, asg3, body3, ex3, h3⟩ := loopK_some h2
        subst ex3
        clear h2
        rw [ifb_none_eq_some] at h3
        obtain ⟨hst3, h3⟩ := h3
        have ae1 := evCode_AE (ev_AE hO.ae FT n) asg hq
        have ae2 := evCode_AE (ev_AE hO.ae FT n) body hq2
        have hn2 : q.H.next ≤ q2.H.next := by have := ae2.next; simpa using this
        have hrn : r.H.next = q2.H.next := by
          unfold Ex.el at h3
          cases hx : q2.ex <;> rw [hx] at h3 <;> cases h3 <;> simp
        have hfold : ((lp.params.zip vs).foldl (fun tmps (t, a) => tmps.setIfInBounds t a) lp.tmps) = ((lp.params.toList.zip vs.toList).foldl (fun tmps x => tmps.setIfInBounds x.1 x.2) lp.tmps) := by
          rw [← Array.foldl_toList, Array.toList_zip]
        rw [hfold]
        refine roundIn_of_wpIn (hW.fn _) (code_sound (L := w.heap.size) hT hm hO.ae FT hR asg b7 (Nat.le_refl n) hWl (fun h => by cases h) (a := { tmps := _, defers := [] }) s2 (DF.nil μ w (Nat.le_refl _)) hh (fresh_le hfr (by omega)) hq fun a1 w1 μ1 k1 k2 k3 k4 => ?_)
        rw [hqx]
        -- the round begins
        have hm1 := k4.le _ _ hme
        obtain ⟨lp1, N1, c1, c2, c3, c4⟩ := k3.blk l e _ hm1 hx2
        obtain ⟨u1, u2⟩ := upd_sound (w' := w1.putObj e.c (.loop { lp1 with state := .busy })) k3 hm1 hx2 rfl hmay2 (x' := .loop 1 pend2 τ2 ps2 asg2 body2) rfl World.putObj_size (fun c hc => World.putObj_heap_other hc) ⟨_, N1, World.putObj_heap_same (Array.getElem?_eq_some_iff.1 c1).1, rfl, c3, c4⟩
        have hready : lp1.state = .ready := by
          rw [hst2] at c2
          cases hs : lp1.state <;> rw [hs] at c2 <;> first | rfl | cases c2
        refine ⟨_, run_beginRound c1 hready, ?_⟩
        have E2 : Ext H μ w (q.H.setB l (.loop 1 pend2 τ2 ps2 asg2 body2)) μ1 (w1.putObj e.c (.loop { lp1 with state := .busy })) := k4.trans u2 (fresh_le hfr (by omega)) k3.top
        refine code_sound (L := w.heap.size) hT hm hO.ae FT hR body b8 (Nat.le_refl n) hWl (fun h => by cases h) (k1.mono u2.le) (k2.ext u2) u1 (fresh_le (fresh_trans hfr E2) (by omega)) hq2 fun a3 w3 μ3 g1 g2 g3 g4 => ?_
        have hm3 := g4.le _ _ hm1
        obtain ⟨lp3, N3, d1, d2, d3, d4⟩ := g3.blk l e _ hm3 hx3
        have hmay3 : q2.H.may l = true := by
          rw [may_perm ae2.perm, AH.may_setB]; exact hmay2
        have E3 : Ext H μ w q2.H μ3 w3 := E2.trans g4 (fresh_le hfr (by simp; omega)) u1.top
        have close : ∀ (jump : Option Code) (st' : Nat) (pend' : Option Ex), stNum (if jump.isNone then LoopState.ready else LoopState.done) = st' → jump = pend'.map exCode → r.H = q2.H.setB l (.loop st' pend' τ3 ps3 asg3 body3) → r.v = .bool jump.isNone →
            ∃ v w', (Instr.endRound e.c jump).run P w3 = .ok v w' ∧ R (.returned v) w' := by
          intro jump st' pend' e1 e2 e3 e4
          obtain ⟨v1, v2⟩ := upd_sound (w' := w3.putObj e.c (.loop { lp3 with state := if jump.isNone then .ready else .done, pending := jump })) g3 hm3 hx3 rfl hmay3 (x' := .loop st' pend' τ3 ps3 asg3 body3) rfl World.putObj_size (fun c hc => World.putObj_heap_other hc) ⟨_, N3, World.putObj_heap_same (Array.getElem?_eq_some_iff.1 d1).1, e1, e2, d4⟩
          refine ⟨_, _, run_endRound jump d1, hRR _ _ μ3 (by rw [e4]; exact rfl) (by rw [e3]; exact v1) (by rw [e3]; exact E3.trans v2 (fresh_le hfr (by omega)) g3.top)⟩
        unfold Ex.el at h3
        cases hx : q2.ex with
        | normal => rw [hx] at h3; cases h3; exact close none 0 none rfl rfl rfl rfl
        | exit id => rw [hx] at h3; cases h3; exact close (some (.exit id)) 2 (some (.exit id)) rfl rfl rfl rfl
        | ret => rw [hx] at h3; cases h3; exact close (some .ret) 2 (some .ret) rfl rfl rfl rfl
end
end Go.Ai
