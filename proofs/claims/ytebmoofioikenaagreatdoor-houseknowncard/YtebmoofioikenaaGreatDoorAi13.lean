/- Guarded operations, calls among them, and regions without a draw. -/
import Derived.Test.YtebmoofioikenaaGreatDoorAi12
import Derived.RangeFuncRecord
namespace Go.Ai
open Go

/-! ### Numbers of blocks only grow -/
section
variable {rec : Task → Option Res}

theorem onward_some {H H' : AH} {τ : Fr AV} {p : Fr AV × AH} : onward H H' τ = some p ↔ H.next ≤ H'.next ∧ p = (τ, H') := by
  unfold onward; rw [ifb_none_eq_some]
  constructor
  · rintro ⟨h1, h2⟩; exact ⟨Nat.le_of_ble_eq_true h1, by cases h2; rfl⟩
  · rintro ⟨h1, h2⟩; exact ⟨Nat.ble_eq_true_of_le h1, by rw [h2]⟩

theorem evOp_next {o : IOper} {τ : Fr AV} {H : AH} {p : Fr AV × AH} (h : evOp rec o τ H = some p) : H.next ≤ p.2.next := by
  unfold evOp at h
  obtain ⟨t, _, h⟩ := obind_eq_some.1 h
  cases t
  · cases h; exact Nat.le_refl _
  · obtain ⟨out, _, h⟩ := obind_eq_some.1 h
    cases out with
    | val v H' => obtain ⟨h1, rfl⟩ := onward_some.1 h; exact h1
    | skip H' => obtain ⟨h1, rfl⟩ := onward_some.1 h; exact h1
    | call f args =>
      obtain ⟨r, _, h⟩ := obind_eq_some.1 h
      obtain ⟨h1, rfl⟩ := onward_some.1 h; exact h1

theorem evOps_cons {o : IOper} {os : List IOper} {τ : Fr AV} {H : AH} : evOps rec (o :: os) τ H = (evOp rec o τ H).obind fun p => evOps rec os p.1 p.2 := rfl

theorem evOps_next {os : List IOper} {τ : Fr AV} {H : AH} {p : Fr AV × AH} (h : evOps rec os τ H = some p) : H.next ≤ p.2.next := by
  induction os generalizing τ H with
  | nil => cases h; exact Nat.le_refl _
  | cons o os ih =>
    rw [evOps_cons] at h
    obtain ⟨q, h1, h2⟩ := obind_eq_some.1 h
    exact Nat.le_trans (evOp_next h1) (ih h2)

@[simp] theorem fence_next (rg : List (Nat × Nat)) (xs : List Nat) (f : Nat) (H : AH) : (fence rg xs f H).next = H.next := by
  unfold fence
  cases H
  simp only [ifb_eq]
  repeat' split
  all_goals rfl
@[simp] theorem unfence_next (H H' : AH) : (unfence H H').next = H'.next := by cases H; cases H'; rfl

theorem evDraw_next {X : Opd → List Nat} {os : List IOper} {ns : List (Nat × Nat)} {τ : Fr AV} {H : AH} {p : Fr AV × AH} (h : evDraw rec X os ns τ H = some p) : H.next ≤ p.2.next := by
  induction os generalizing ns τ H with
  | nil => cases h; exact Nat.le_refl _
  | cons o os ih =>
    have h : (evOp rec o τ (fence (rgAt ns o.hide) (o.xs.flatMap X) o.flag H)).obind (fun p => evDraw rec X os ((H.next, p.2.next) :: ns) p.1 (unfence H p.2)) = some p := h
    obtain ⟨q, h1, h2⟩ := obind_eq_some.1 h
    have := evOp_next h1
    have := ih h2
    simp at *
    omega

def MonoL (rec : Task → Option Res) : Prop := ∀ c τ H r, rec (.loop c τ H) = some r → H.next ≤ r.H.next

theorem evCode_next (hL : MonoL rec) : ∀ (c : ICode) {τ : Fr AV} {H : AH} {r : Res}, evCode rec c τ H = some r → H.next ≤ r.H.next
  | .skip, _, _, _, h => by cases h; exact Nat.le_refl _
  | .region ops, τ, H, r, h => by
    have h : (evOps rec ops τ H).obind (fun p => some ({ ex := .normal, τ := p.1, H := p.2 } : Res)) = some r := h
    obtain ⟨p, h1, h2⟩ := obind_eq_some.1 h
    cases h2; exact evOps_next h1
  | .draw ops two, τ, H, r, h => by
    have h : eDraw rec ops two τ H = some r := h
    unfold eDraw at h
    obtain ⟨τ₁, _, h⟩ := obind_eq_some.1 h
    obtain ⟨p, h1, h2⟩ := obind_eq_some.1 h
    cases h2; exact evDraw_next h1
  | .seq a b, τ, H, r, h => by
    have h : (evCode rec a τ H).obind (fun r => eThen r (evCode rec b)) = some r := h
    obtain ⟨q, h1, h2⟩ := obind_eq_some.1 h
    have i1 := evCode_next hL a h1
    unfold eThen Ex.el at h2
    cases hq : q.ex with
    | normal => rw [hq] at h2; exact Nat.le_trans i1 (evCode_next hL b h2)
    | exit id => rw [hq] at h2; cases h2; exact i1
    | ret => rw [hq] at h2; cases h2; exact i1
  | .cond x a b, τ, H, r, h => by
    have h : (x.ev τ).boolK (fun t => ifb t (evCode rec a τ H) (evCode rec b τ H)) = some r := h
    generalize x.ev τ = v at h
    cases v <;> simp [AV.boolK] at h
    rename_i t
    cases t
    · exact evCode_next hL b h
    · exact evCode_next hL a h
  | .block id c, τ, H, r, h => by
    have h : (evCode rec c τ H).obind (eEnd id) = some r := h
    obtain ⟨q, h1, h2⟩ := obind_eq_some.1 h
    have i1 := evCode_next hL c h1
    unfold eEnd Ex.el at h2
    cases hq : q.ex with
    | normal => rw [hq] at h2; cases h2; exact i1
    | ret => rw [hq] at h2; cases h2; exact i1
    | exit id' =>
      rw [hq] at h2
      have h2 : ifb (Nat.beq id' id) (some { q with ex := .normal }) (some q) = some r := h2
      rw [ifb_eq] at h2
      split at h2 <;> cases h2 <;> exact i1
  | .loop c, τ, H, r, h => by
    have h : (evCode rec c τ H).obind (fun r => eThen r fun τ H => rec (.loop c τ H)) = some r := h
    obtain ⟨q, h1, h2⟩ := obind_eq_some.1 h
    have i1 := evCode_next hL c h1
    unfold eThen Ex.el at h2
    cases hq : q.ex with
    | normal => rw [hq] at h2; exact Nat.le_trans i1 (hL _ _ _ _ h2)
    | exit id => rw [hq] at h2; cases h2; exact i1
    | ret => rw [hq] at h2; cases h2; exact i1
  | .rangeFunc f ps asg body, τ, H, r, h => by
    have h : eRange rec f ps asg body τ H = some r := h
    unfold eRange at h
    rw [ifb_none_eq_some] at h
    obtain ⟨_, h⟩ := h
    unfold eRange1 at h
    obtain ⟨q, _, h⟩ := obind_eq_some.1 h
    rw [ifb_none_eq_some] at h
    obtain ⟨h1, h⟩ := h
    have h1 := Nat.le_of_ble_eq_true h1
    obtain ⟨x, _, h⟩ := obind_eq_some.1 h
    unfold eRange2 at h
    cases x with
    | cells _ _ => cases h
    | map _ => cases h
    | iter _ _ => cases h
    | loop st pend τ' ps' asg' body' =>
      simp only [ABlk.loopK, ifb_eq] at h
      split at h
      · cases pend <;> cases h; simp; omega
      · split at h
        · obtain ⟨e, _, h⟩ := obind_eq_some.1 h
          cases h; simp; omega
        · cases h
  | .exit id, _, _, _, h => by cases h; exact Nat.le_refl _
  | .ret, _, _, _, h => by cases h; exact Nat.le_refl _
  | .stuck, _, _, _, h => by cases h
  | .scope c, _, _, _, h => evCode_next hL c h

theorem ev_monoL (O : AV → List AV → AH → Option Res) (FT : Nat → Option IFunc) : ∀ n, MonoL (ev O FT n)
  | 0 => fun _ _ _ _ h => by cases h
  | n + 1 => fun c τ H r h => by
    have h : eLoop (ev O FT n) c (evCode (ev O FT n) c) τ H = some r := h
    exact evCode_next (ev_monoL O FT n) (.loop c) h
end

/-! ### Slots -/
section
variable {N : Nat} {μ : Mu} {τ : Fr AV} {tmps : Array Value}
theorem FR.put (hF : FR N μ τ tmps) {p : Pth} (hp : p.num < N) {v : AV} {y : Value} (hv : VR μ v y) : FR N μ (τ.put p v) (tmps.setIfInBounds p.num y) := by
  refine ⟨by simpa using hF.1, fun q => ?_⟩
  rw [Fr.get_put]
  by_cases hq : q = p
  · subst hq
    rw [if_pos rfl]
    have hlt : q.num < tmps.size := Nat.lt_of_lt_of_le hp hF.1
    simp only [Array.getD_eq_getD_getElem?, Array.getElem?_setIfInBounds_self_of_lt hlt]
    exact hv
  · rw [if_neg hq]
    have hne : p.num ≠ q.num := fun h => hq (Pth.num_inj h).symm
    simp only [Array.getD_eq_getD_getElem?, Array.getElem?_setIfInBounds_ne hne]
    have := hF.2 q
    simpa [Array.getD_eq_getD_getElem?] using this
end

def ckDst (N : Nat) : Option Pth → Option Tmp → Bool
  | none, none => true
  | some p, some d => Nat.beq p.num d && Nat.blt d N
  | _, _ => false

def ckGuard (ops : Array Oper) : Option (Pth × Bool) → Option (Nat × Bool) → Bool
  | none, none => true
  | some (p, w), some (j, w') => w == w' && (match (ops[j]?).bind (·.dst) with | some d => Nat.beq p.num d | none => false)
  | _, _ => false

def cCall (f : Opd) (args : List Opd) : Op → Option Unit
  | .call { callee := .value g, args := as, argTypes := _ } => yes? (ckO f g && ckOs args as.toList)
  | _ => none

def ckAny (tt : TT) (x : IOp) (o : Op) : Option Unit :=
  match x with
  | .call f args => cCall f args o
  | x => ckOp tt x o

def ckOper (tt : TT) (N : Nat) (ops : Array Oper) (x : IOper) (o : Oper) : Option Unit :=
  if ckDst N x.dst o.dst && ckGuard ops x.guard o.guard then ckAny tt x.op o.op else none

structure FW (F : Fence) : Prop where
  fn : ∀ f, F.fn f
  depth : F.depth = none
  alive : F.alive = false

/-- The calls that are left to another hand. -/
structure RecOK (CR : CRel) (P : Program) (rec : Task → Option Res) : Prop where
  shape : ∀ {v args H r}, rec (.call v args H) = some r → (∃ k first cap, v = .fn k first cap) ∨ ∃ l, v = .yld l
  call : ∀ {k first cap args H r}, rec (.call (.fn k first cap) args H) = some r → ∀ {B μ w} {vs : Array Value}, HR CR B H μ w → VRs μ (first ++ args ++ cap) vs.toList → Fresh μ H r.H →
    (∃ fn, P.funcs[k]? = some fn ∧ fn.body.isSome = true ∧ (fn.name == "runtime.NumGoroutine") = false) ∧
    ∀ (F : Fence) (R : Ending → World → Prop), FW F → (∀ v w' μ', VR μ' r.v v → HR CR B r.H μ' w' → Ext H μ w r.H μ' w' → R (.returned v) w') → CallsIn F 0 P k vs w R
  yld : ∀ {l args H r}, rec (.call (.yld l) args H) = some r → ∀ {B μ w e} {vs : Array Value}, HR CR B H μ w → μ l = some e → VRs μ args vs.toList → Fresh μ H r.H →
    ∃ lp, w.heap[e.c]? = some (.loop lp) ∧ vs.size = lp.params.size ∧
    ∀ (F : Fence) (R : Ending → World → Prop), FW F → (∀ v w' μ', VR μ' r.v v → HR CR B r.H μ' w' → Ext H μ w r.H μ' w' → R (.returned v) w') →
      RoundIn F 0 P e.c lp.fn ((lp.params.zip vs).foldl (fun tmps (t, a) => tmps.setIfInBounds t a) lp.tmps) lp.assign lp.body w R

/-- One operation of a region, wanted or not. -/
def OpIn (F : Fence) (P : Program) (ops : Array Oper) (Q : Exit → Act → World → Prop) (o : Oper) (K : Act → World → Prop) (a : Act) (w : World) : Prop :=
  if Region.wanted o (yielded ops a.tmps) then o.wpIn F 0 P a w K Q else (∀ f, o.about P w a.eval = some f → F.fn f) ∧ K (a.put o.dst undef) w

section
variable {tt : TT} {CR : CRel} {B N : Nat} {P : Program} {H : AH} {μ : Mu} {w : World} {τ : Fr AV} {a : Act} {u : Unit} {ops : Array Oper}

theorem FR.putD (hF : FR N μ τ a.tmps) {d : Option Pth} {t : Option Tmp} (hd : ckDst N d t = true) {v : AV} {y : Value} (hv : VR μ v y) : FR N μ (putD τ d v) (a.put t y).tmps := by
  cases d <;> cases t <;> simp [ckDst] at hd
  · exact hF
  · rename_i p d
    obtain ⟨h1, h2⟩ := hd
    have h1 : p.num = d := by simpa using h1
    subst h1
    exact hF.put h2 hv

def boolOf : Value → Option Bool
  | .bool b => some b
  | _ => none
theorem yielded_eq {tmps : Array Value} {j d : Nat} (h : (ops[j]?).bind (·.dst) = some d) : yielded ops tmps j = boolOf (tmps.getD d undef) := by
  unfold yielded
  rw [h, Array.getD_eq_getD_getElem?]
  simp only [Option.bind_some]
  cases tmps[d]? with
  | none => rfl
  | some v => cases v <;> rfl

theorem wanted_sound (hF : FR N μ τ a.tmps) {x : IOper} {o : Oper} (hg : ckGuard ops x.guard o.guard = true) {t : Bool} (hw : wantedB τ x.guard = some t) : Region.wanted o (yielded ops a.tmps) = t := by
  unfold Region.wanted
  cases hx : x.guard with
  | none =>
    rw [hx] at hg hw
    cases ho : o.guard with
    | some q => rw [ho] at hg; simp [ckGuard] at hg
    | none => cases hw; rfl
  | some q =>
    obtain ⟨p, b⟩ := q
    rw [hx] at hg hw
    cases ho : o.guard with
    | none => rw [ho] at hg; simp [ckGuard] at hg
    | some q' =>
      obtain ⟨j, b'⟩ := q'
      rw [ho] at hg
      simp only [ckGuard, Bool.and_eq_true] at hg
      obtain ⟨h1, h2⟩ := hg
      have h1 : b = b' := by simpa using h1
      subst h1
      cases hd : (ops[j]?).bind (·.dst) with
      | none => rw [hd] at h2; cases h2
      | some d =>
        rw [hd] at h2
        have h2 : p.num = d := by simpa using h2
        subst h2
        have hv := hF.2 p
        have hw : wantV (τ.get p).ogetU b = some t := hw
        show (yielded ops a.tmps j == some b) = t
        rw [yielded_eq hd]
        generalize (τ.get p).ogetU = v at hv hw
        have nb : ∀ {v : Value}, (∀ c, v ≠ .bool c) → boolOf v = none := by
          intro v hv; cases v <;> first | rfl | exact absurd rfl (hv _)
        cases v with
        | undef => cases hw
        | bool c =>
          rw [show a.tmps.getD p.num undef = .bool c from hv]
          cases hw
          cases b <;> cases c <;> rfl
        | int k n => cases hw; rw [nb (by rw [show a.tmps.getD p.num undef = _ from hv]; simp)]; rfl
        | str s => cases hw; rw [nb (by rw [show a.tmps.getD p.num undef = _ from hv]; simp)]; rfl
        | ptr q => cases hw; rw [nb (by
            cases q with
            | none => rw [show a.tmps.getD p.num undef = _ from hv]; simp
            | some q => obtain ⟨_, _⟩ := q; obtain ⟨e, _, hv⟩ := hv; rw [hv]; simp)]; rfl
        | sl q l c x z => cases hw; rw [nb (by
            cases q with
            | none => obtain ⟨_, _, hv⟩ := hv; rw [hv]; simp
            | some q => obtain ⟨_, _⟩ := q; obtain ⟨_, _, hv, _⟩ := hv; rw [hv]; simp)]; rfl
        | map q => cases hw; rw [nb (by
            cases q with
            | none => rw [show a.tmps.getD p.num undef = _ from hv]; simp
            | some q => obtain ⟨e, _, hv⟩ := hv; rw [hv]; simp)]; rfl
        | fn f x y => cases hw; rw [nb (by obtain ⟨_, _, hv, _⟩ := hv; rw [hv]; simp)]; rfl
        | yld l => cases hw; rw [nb (by obtain ⟨_, _, hv⟩ := hv; rw [hv]; simp)]; rfl
        | nilFn => cases hw; rw [nb (by rw [show a.tmps.getD p.num undef = _ from hv]; simp)]; rfl
        | iface t x => cases hw; rw [nb (by obtain ⟨_, hv, _⟩ := hv; rw [hv]; simp)]; rfl
        | nilIface => cases hw; rw [nb (by rw [show a.tmps.getD p.num undef = _ from hv]; simp)]; rfl
        | agg cs => cases hw; rw [nb (by obtain ⟨_, hv, _⟩ := hv; rw [hv]; simp)]; rfl
        | tup cs => cases hw; rw [nb (by obtain ⟨_, hv, _⟩ := hv; rw [hv]; simp)]; rfl

theorem VR.tup0 : VR μ (.tup []) Go.undef := ⟨#[], rfl, rfl⟩

theorem ckAny_noDefer {x : IOp} {o : Op} (h : ckAny tt x o = some u) : ∀ c, o ≠ .defer c := by
  intro c ho
  subst ho
  cases x <;> simp [ckAny, ckOp, cMove, cPick, cAlloc, cBox, cBuild, cBuildSlice, cLoad, cLoadAgg, cStore, cNilCheck, cBin, cEqB, cEqAgg, cEqNil, cUn, cConvInt, cConvStr, cMkIface, cMkFn, cMkMap, cMkSlice, cSliceStr, cSliceSl, cSliceArr, cFieldAddr, cField,
    cIdxAddrArr, cIdxAddrSl, cIdxArr, cIdxStr, cLookup, cMapUpdate, cExtract, cCall, cLen, cLenArr, cAppend, cClearSl, cMinmax, cStuck, cBytesToStr, cLoadG, cIdxAddrG, cRangeStr, cNextStr, cStrToBytes, cCopy] at h

theorem outOp_sound (hT : TTok tt P) {rec : Task → Option Res} (hR : RecOK CR P rec) (hF : FR N μ τ a.tmps) (h : HR CR B H μ w) {x : IOper} {o : Oper} (_ : ckDst N x.dst o.dst = true) (hck : ckAny tt x.op o.op = some u)
    {p : Fr AV × AH} (hev : (opRun x.op τ H).obind (outK rec x.dst τ H) = some p) (hfr : Fresh μ H p.2) {F : Fence} (hW : FW F) {K : Act → World → Prop} {Q : Exit → Act → World → Prop}
    (hK : ∀ y v w' μ', VR μ' v y → p.1 = putD τ x.dst v → HR CR B p.2 μ' w' → Ext H μ w p.2 μ' w' → K (a.put o.dst y) w') : o.wpIn F 0 P a w K Q := by
  refine ⟨fun f _ => hW.fn f, ?_⟩
  rw [Oper.semAt_eq _ _ _ (ckAny_noDefer hck)]
  obtain ⟨out, ho, hev⟩ := obind_eq_some.1 hev
  have simple : ckOp tt x.op o.op = some u → o.uponIn F 0 P a K Q ((execOp a.eval o).run P w) := by
    intro hc
    have hg := op_sound hT hF h hc ho
    cases out with
    | val v H' =>
      obtain ⟨_, rfl⟩ := onward_some.1 hev
      obtain ⟨y, w', μ', r1, r2, r3, r4⟩ := hg hfr
      rw [r1]
      exact hK y v w' μ' r2 rfl r3 r4
    | skip H' =>
      obtain ⟨_, rfl⟩ := onward_some.1 hev
      obtain ⟨w', μ', r1, r3, r4⟩ := hg hfr
      rw [r1]
      exact hK _ _ w' μ' VR.tup0 rfl r3 r4
    | call f args => exact hg.elim
  cases hx : x.op
  case call f args =>
    rw [hx] at hck ho
    have hck : cCall f args o.op = some u := hck
    cases ho
    obtain ⟨r, hr, hev⟩ := obind_eq_some.1 hev
    obtain ⟨hle, rfl⟩ := onward_some.1 hev
    unfold cCall at hck
    split at hck <;> first | cases hck | skip
    rename_i g as ts hop
    rw [yes?_some] at hck; simp only [Bool.and_eq_true] at hck
    obtain ⟨c1, c2⟩ := hck
    have hfv := ckO_sound hF c1
    have hav := ckOs_sound hF c2
    rcases hR.shape hr with ⟨k, first, cap, hv⟩ | ⟨l, hv⟩
    · rw [hv] at hr hfv
      obtain ⟨fs, cs, e1, e2, e3⟩ := hfv
      have hvs : VRs μ (first ++ args.map (Opd.ev τ) ++ cap) (fs ++ as.map a.eval ++ cs).toList := by
        simp only [Array.toList_append, Array.toList_map]
        exact (e2.append hav).append e3
      obtain ⟨⟨fn, f1, f2, f3⟩, hcall⟩ := hR.call hr h hvs hfr
      have hrun : (execOp a.eval o).run P w = .ok (.enter k (fs ++ as.map a.eval ++ cs)) w := by
        obtain ⟨bd, hnb⟩ := Option.isSome_iff_exists.1 f2
        have f3' : ¬ fn.name = "runtime.NumGoroutine" := by simpa using f3
        simp [execOp, hop, resolve, e1, Deferred.ofValue, invoke, callFunc, run_program, f1, f3', hnb]
      rw [hrun]
      refine ⟨fun hh => (by rw [hW.depth] at hh; cases hh), ?_⟩
      exact hcall F _ hW fun v w' μ' k1 k2 k3 => hK v r.v w' μ' k1 rfl k2 k3
    · rw [hv] at hr hfv
      obtain ⟨e, e1, e2⟩ := hfv
      have hvs : VRs μ (args.map (Opd.ev τ)) (as.map a.eval).toList := by rw [Array.toList_map]; exact hav
      obtain ⟨lp, f1, f2, hround⟩ := hR.yld hr h e1 hvs hfr
      have hrun : (execOp a.eval o).run P w = .ok (.round e.c lp.fn ((lp.params.zip (as.map a.eval)).foldl (fun tmps (t, a) => tmps.setIfInBounds t a) lp.tmps) lp.assign lp.body) w := by
        have := run_yield (P := P) f1 f2
        have e : (execOp a.eval o).run P w = (Instr.yield e.c (as.map a.eval)).run P w := by simp [execOp, hop, resolve, e2, Deferred.ofValue, invoke]
        rw [e, this]
      rw [hrun]
      refine ⟨fun hh => (by rw [hW.depth] at hh; cases hh), ?_⟩
      exact hround F _ hW fun v w' μ' k1 k2 k3 => hK v r.v w' μ' k1 rfl k2 k3
  all_goals (rw [hx] at hck; exact simple (by rw [hx]; exact hck))

theorem evOp_sound (hT : TTok tt P) {rec : Task → Option Res} (hR : RecOK CR P rec) (hF : FR N μ τ a.tmps) (h : HR CR B H μ w) {x : IOper} {o : Oper} (hck : ckOper tt N ops x o = some u)
    {p : Fr AV × AH} (hev : evOp rec x τ H = some p) (hfr : Fresh μ H p.2) {F : Fence} (hW : FW F) {K : Act → World → Prop} {Q : Exit → Act → World → Prop}
    (hK : ∀ y v w' μ', VR μ' v y → p.1 = putD τ x.dst v → HR CR B p.2 μ' w' → Ext H μ w p.2 μ' w' → K (a.put o.dst y) w') : OpIn F P ops Q o K a w := by
  unfold ckOper at hck
  split at hck <;> first | cases hck | skip
  rename_i hc
  simp only [Bool.and_eq_true] at hc
  unfold evOp at hev
  obtain ⟨t, ht, hev⟩ := obind_eq_some.1 hev
  have hw := wanted_sound (a := a) hF hc.2 ht
  unfold OpIn
  rw [hw]
  cases t
  · cases hev
    exact ⟨fun f _ => hW.fn f, hK _ _ w μ VR.tup0 rfl h (Ext.refl H μ w)⟩
  · exact outOp_sound hT hR hF h hc.1 hck hev hfr hW hK
end
end Go.Ai
