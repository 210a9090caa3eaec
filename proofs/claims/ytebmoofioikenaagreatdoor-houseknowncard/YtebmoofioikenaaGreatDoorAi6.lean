/- Single operations: those that read, and those that lay a block. -/
import Derived.Test.YtebmoofioikenaaGreatDoorAi5
import Derived.Laws.Wrap64
namespace Go.Ai
open Go

section
variable (CR : CRel) (B : Nat) (P : Program) (H : AH) (μ : Mu) (w : World)
/-- An operation's run, held against what the abstract machine says of it. -/
def GoodV (run : Result Next) (v : AV) (H' : AH) : Prop :=
  Fresh μ H H' → ∃ y w' μ', run = .ok (.value y) w' ∧ VR μ' v y ∧ HR CR B H' μ' w' ∧ Ext H μ w H' μ' w'
def GoodS (run : Result Next) (H' : AH) : Prop :=
  Fresh μ H H' → ∃ w' μ', run = .ok .skip w' ∧ HR CR B H' μ' w' ∧ Ext H μ w H' μ' w'
def Good (run : Result Next) : Out → Prop
  | .val v H' => GoodV CR B H μ w run v H'
  | .skip H' => GoodS CR B H μ w run H'
  | .call _ _ => False
end

section
variable {CR : CRel} {B : Nat} {P : Program} {H : AH} {μ : Mu} {w w' : World}
theorem quietV (h : HR CR B H μ w) {run : Result Next} {v : AV} {y : Value} (hr : run = .ok (.value y) w) (hv : VR μ v y) : Good CR B H μ w run (.val v H) :=
  fun _ => ⟨y, w, μ, hr, hv, h, Ext.refl H μ w⟩

theorem HR.drew (h : HR CR B H μ w) (e : w'.heap = w.heap) : HR CR B H μ w' :=
  ⟨fun b f x hb hv => (h.blk b f x hb hv).heap (by rw [e]), h.sep, h.low, fun b f hb => by rw [e]; exact h.ins b f hb, h.top, h.lim, h.hid, h.exc, by rw [e]; exact h.base, h.gl⟩

theorem fresh_alloc {x : ABlk} (hf : Fresh μ H (H.alloc x)) : μ H.next = none := hf _ (Nat.le_refl _) (by simp)

/-- A new row of cells. -/
theorem newRow_sound (h : HR CR B H μ w) {t : TypeId} {cs : Array Value} {vs : List AV} (hv : VRs μ vs (cs.toList.take vs.length)) (_hlen : vs.length ≤ cs.size) (hw : w'.heap = w.heap.push (.cells cs t)) (hf : μ H.next = none) (ho : w'.os = w.os ∧ w'.output = w.output := by exact ⟨rfl, rfl⟩) (ty : Nat := 0) (hty : ty = 0 ∨ (ty = 3 * t + 2 ∧ vs.length = cs.size) ∨ ty = 3 * t + 3 := by exact .inl rfl) :
    HR CR B (H.alloc (.cells false vs ty)) (μ.add H.next ⟨w.heap.size, 0, cs.size⟩) w' ∧ Ext H μ w (H.alloc (.cells false vs ty)) (μ.add H.next ⟨w.heap.size, 0, cs.size⟩) w' :=
  alloc_sound h hf _ _ cs.size hw ⟨cs, t, (0, 0), by rw [hw]; simp, (Nat.zero_add _).symm, by simpa using hv.mono (μ.le_add _ _ hf), fun _ k _ hk => by simp at hk, hty.imp id fun g => .inr (g.imp (fun g => ⟨g.1, rfl, g.2⟩) fun g => ⟨g, rfl⟩)⟩ rfl ho

theorem newPtr_good (h : HR CR B H μ w) {run : Result Next} {t : TypeId} {cs : Array Value} {vs : List AV} (hv : VRs μ vs cs.toList)
    (hr : run = .ok (.value (.pointer (some ⟨w.heap.size, 0, none⟩))) (w.alloc (.cells cs t))) (ty : Nat := 0) (hty : ty = 0 ∨ ty = 3 * t + 2 := by exact .inl rfl) : Good CR B H μ w run (.val (.ptr (some (H.next, 0))) (H.alloc (.cells false vs ty))) := fun hf => by
  have hl := hv.length
  obtain ⟨h1, h2⟩ := newRow_sound (w' := w.alloc (.cells cs t)) h (t := t) (cs := cs) (vs := vs) (by rw [← hl, List.take_length]; exact hv) (by simp at hl; omega) rfl (fresh_alloc hf) (ty := ty) (hty := hty.imp id fun g => .inl ⟨g, by simpa using hl.symm⟩)
  exact ⟨_, _, _, hr, ⟨_, Mu.add_same _ _ _, rfl⟩, h1, h2⟩

theorem newSl_good (h : HR CR B H μ w) {run : Result Next} {t : TypeId} {cs : Array Value} {vs : List AV} {len cap cap' esz : Nat} {ex : Bool} (hv : VRs μ vs (cs.toList.take vs.length)) (hlen : vs.length ≤ cs.size)
    (hw : w'.heap = w.heap.push (.cells cs t)) (hcap : len ≤ cap) (hcc : cap ≤ cap') (hex : ex = true → cap' = cap) (hroom : cap' * esz ≤ cs.size)
    (hr : run = .ok (.value (.slice (some ⟨w.heap.size, 0, none⟩) len cap')) w') (ho : w'.os = w.os ∧ w'.output = w.output := by exact ⟨rfl, rfl⟩) : Good CR B H μ w run (.val (.sl (some (H.next, 0)) len cap ex esz) (H.alloc (.cells false vs))) := fun hf => by
  obtain ⟨h1, h2⟩ := newRow_sound h hv hlen hw (fresh_alloc hf) ho
  exact ⟨_, _, _, hr, ⟨_, _, rfl, hcap, hcc, hex, .inr ⟨_, Mu.add_same _ _ _, by simp, by simpa using hroom⟩⟩, h1, h2⟩
end

/-! ### The checks -/
section
variable (tt : TT)
def onT {β : Type} (t : TypeId) (k : TS → Option β) : Option β := (tt t).bind k
def yes? (b : Bool) : Option Unit := if b then some () else none

def cMove (x : Opd) : Op → Option Unit
  | .move y => yes? (ckO x y)
  | .assign y => yes? (ckO x y)
  | _ => none
def cPick (c a b : Opd) : Op → Option Unit
  | .pick x y z => yes? (ckO c x && (ckO a y && ckO b z))
  | _ => none
def cAlloc (zero : List AV) (ty : Nat) : Op → Option Unit
  | .alloc t => onT tt t fun s => s.zero.bind fun z => yes? (ckVs zero z.cells.toList && (Nat.beq ty 0 || Nat.beq ty (3 * t + 2)))
  | _ => none
def cBox (x : Opd) : Op → Option Unit
  | .box _ y => yes? (ckO x y)
  | _ => none
def cLoad (x : Opd) : Op → Option Unit
  | .load t y => onT tt t fun s => yes? (ckO x y && !isAggD s.desc)
  | _ => none
def cLoadAgg (n : Nat) (x : Opd) : Op → Option Unit
  | .load t y => onT tt t fun s => yes? (ckO x y && (isAggD s.desc && Nat.beq s.size n))
  | _ => none
def cStore (n : Nat) (a v : Opd) : Op → Option Unit
  | .store t x y => onT tt t fun s => yes? (ckO a x && (ckO v y && Nat.beq s.size n))
  | _ => none
def cNilCheck (x : Opd) : Op → Option Unit
  | .nilCheck y => yes? (ckO x y)
  | _ => none
def isBasic : TypeDesc → Bool
  | .int _ => true
  | .bool => true
  | .string => true
  | _ => false
def cBin (op : BinOp) (x y : Opd) : Op → Option Unit
  | .binOp op' t a b _ => onT tt t fun s => yes? (decide (op = op') && (ckO x a && (ckO y b && isBasic s.desc)))
  | _ => none
def cUn (op : UnOp) (x : Opd) : Op → Option Unit
  | .unOp op' _ a => yes? (decide (op = op') && ckO x a)
  | _ => none
def cConvInt (k : IntKind) (x : Opd) : Op → Option Unit
  | .convert s d a => onT tt s fun _ => onT tt d fun e => match e.desc with
    | .int k' => yes? (decide (k = k') && ckO x a)
    | _ => none
  | _ => none
def cConvStr (x : Opd) : Op → Option Unit
  | .convert s d a => onT tt s fun _ => onT tt d fun e => match e.desc with
    | .string => yes? (ckO x a)
    | _ => none
  | _ => none
def cMkIface (t : Nat) (x : Opd) : Op → Option Unit
  | .makeInterface t' a => onT tt t' fun e => match e.desc with
    | .interface _ => none
    | _ => yes? (Nat.beq t t' && ckO x a)
  | _ => none
def cMkFn (f : Nat) (first cap : List Opd) : Op → Option Unit
  | .makeFunc (.func f') xs ys => yes? (Nat.beq f f' && (ckOs first xs.toList && ckOs cap ys.toList))
  | _ => none
def cMkMap : Op → Option Unit
  | .makeMap t none => onT tt t fun _ => some ()
  | .makeMap t (some (.const (.int _ _))) => onT tt t fun s => match s.desc with
    | .map _ _ => some ()
    | _ => none
  | _ => none
def cFieldAddr (off : Nat) (x : Opd) : Op → Option Unit
  | .fieldAddr s a f => onT tt s fun e => match e.desc with
    | .struct fs => match fs[f]? with
      | some fd => onT tt fd.type fun s => yes? (Nat.beq fd.offset off && (ckO x a && Nat.blt 0 s.size))
      | none => none
    | _ => none
  | _ => none
def cIdxAddrArr (n esz : Nat) (x i : Opd) : Op → Option Unit
  | .indexAddr t a b => onT tt t fun e => match e.desc with
    | .array len el => onT tt el fun s => yes? (Nat.beq len n && (Nat.beq s.size esz && (ckO x a && ckO i b)))
    | _ => none
  | _ => none
def cIdxAddrSl (esz : Nat) (x i : Opd) : Op → Option Unit
  | .indexAddr t a b => onT tt t fun e => match e.desc with
    | .slice el => onT tt el fun s => yes? (Nat.beq s.size esz && (ckO x a && ckO i b))
    | _ => none
  | _ => none
def cIdxStr (x i : Opd) : Op → Option Unit
  | .index t a b => onT tt t fun e => match e.desc with
    | .string => yes? (ckO x a && ckO i b)
    | _ => none
  | _ => none
def cExtract (x : Opd) (i : Nat) : Op → Option Unit
  | .extract a j => yes? (Nat.beq i j && ckO x a)
  | _ => none
def cSliceStr (x : Opd) (lo hi : Option Opd) : Op → Option Unit
  | .slice t a l h none => onT tt t fun e => match e.desc with
    | .string => yes? (ckO x a && (ckOo lo l && ckOo hi h))
    | _ => none
  | _ => none
def cSliceSl (esz : Nat) (x : Opd) (lo hi mx : Option Opd) : Op → Option Unit
  | .slice t a l h m => onT tt t fun e => match e.desc with
    | .slice el => onT tt el fun s => yes? (Nat.beq s.size esz && (ckO x a && (ckOo lo l && (ckOo hi h && (ckOo mx m && (mx.isNone || hi.isSome))))))
    | _ => none
  | _ => none
end

theorem yes?_some {b : Bool} {u : Unit} : yes? b = some u ↔ b = true := by unfold yes?; cases b <;> simp
theorem onT_some {tt : TT} {P : Program} (hT : TTok tt P) {β : Type} {t : TypeId} {k : TS → Option β} {b : β} (h : onT tt t k = some b) :
    ∃ s i, P.underlying t = some s.desc ∧ P.info? t = some i ∧ i.size = s.size ∧ i.bytes = s.bytes ∧ i.zero = s.zero ∧ k s = some b := by
  unfold onT at h
  obtain ⟨s, h1, h2⟩ := Option.bind_eq_some_iff.1 h
  obtain ⟨g1, ⟨i, g2, g3, g4, g5⟩, _⟩ := hT t s h1
  exact ⟨s, i, g1, g2, g3, g4, g5, h2⟩

theorem onT_key {tt : TT} {P : Program} (hT : TTok tt P) {β : Type} {t : TypeId} {k : TS → Option β} {b : β} (h : onT tt t k = some b) :
    ∃ s, k s = some b ∧ P.underlying t = some s.desc ∧ ∀ p, s.key = some p → KT P t p.1 p.2 := by
  unfold onT at h
  obtain ⟨s, h1, h2⟩ := Option.bind_eq_some_iff.1 h
  obtain ⟨g1, _, g2⟩ := hT t s h1
  exact ⟨s, h2, g1, g2⟩

section
variable {tt : TT} {CR : CRel} {B N : Nat} {P : Program} {H : AH} {μ : Mu} {w : World} {τ : Fr AV} {a : Act} {u : Unit} {out : Out} {o : Oper}

theorem s_move (hF : FR N μ τ a.tmps) (h : HR CR B H μ w) {x : Opd} (hc : cMove x o.op = some u) (hr : rMove x τ H = some out) : Good CR B H μ w ((execOp a.eval o).run P w) out := by
  cases hr
  unfold cMove at hc
  split at hc <;> first | cases hc | skip
  all_goals (rename_i y ho; rw [yes?_some] at hc; exact quietV h (by simp [execOp, ho]) (ckO_sound hF hc))

theorem s_pick (hF : FR N μ τ a.tmps) (h : HR CR B H μ w) {c x y : Opd} (hc : cPick c x y o.op = some u) (hr : rPick c x y τ H = some out) : Good CR B H μ w ((execOp a.eval o).run P w) out := by
  unfold cPick at hc
  split at hc <;> first | cases hc | skip
  rename_i c' x' y' ho
  rw [yes?_some] at hc; simp only [Bool.and_eq_true] at hc
  obtain ⟨h1, h2, h3⟩ := hc
  unfold rPick at hr
  obtain ⟨t, e1, e2, e3⟩ := (ckO_sound hF h1).bool hr
  cases e3
  refine quietV h (y := if t then a.eval x' else a.eval y') (by simp [execOp, ho, e2, asBool]) ?_
  cases t
  · exact ckO_sound hF h3
  · exact ckO_sound hF h2

theorem s_alloc (hT : TTok tt P) (h : HR CR B H μ w) {zero : List AV} {ty : Nat} (hc : cAlloc tt zero ty o.op = some u) (hr : rAlloc zero ty τ H = some out) : Good CR B H μ w ((execOp a.eval o).run P w) out := by
  cases hr
  unfold cAlloc at hc
  split at hc <;> first | cases hc | skip
  rename_i t ho
  obtain ⟨s, i, g1, g2, g3, g4, g5, g6⟩ := onT_some hT hc
  obtain ⟨z, hz, hk⟩ := Option.bind_eq_some_iff.1 g6
  rw [yes?_some] at hk; simp only [Bool.and_eq_true, Bool.or_eq_true] at hk
  exact newPtr_good h (t := t) (cs := z.cells) (ckVs_sound μ _ _ hk.1) (by
    simp [execOp, ho, Instr.alloc, run_zeroValue' g2 (g5.trans hz), newVar, newRow]) (ty := ty) (hty := hk.2.imp (fun g => by simpa using g) fun g => by simpa using g)

theorem isDef_ne {v : AV} (h : v.isDef = true) : v ≠ .undef := by rintro rfl; cases h

theorem s_box (hF : FR N μ τ a.tmps) (h : HR CR B H μ w) {x : Opd} (hc : cBox x o.op = some u) (hr : rBox x τ H = some out) : Good CR B H μ w ((execOp a.eval o).run P w) out := by
  unfold rBox at hr; rw [ifb_none_eq_some] at hr
  obtain ⟨hd, hr⟩ := hr; cases hr
  unfold cBox at hc
  split at hc <;> first | cases hc | skip
  rename_i t y ho
  rw [yes?_some] at hc
  exact newPtr_good h (t := t) (cs := (a.eval y).cells) ((ckO_sound hF hc).cells (isDef_ne hd)) (by simp [execOp, ho, Instr.box, newVar, newRow])

theorem valK_some {v : Option AV} {out : Out} (h : valK H v = some out) : ∃ x, v = some x ∧ out = .val x H := by
  unfold valK at h; obtain ⟨x, h1, h2⟩ := obind_eq_some.1 h; cases h2; exact ⟨x, h1, rfl⟩

theorem s_load (hT : TTok tt P) (hF : FR N μ τ a.tmps) (h : HR CR B H μ w) {x : Opd} (hc : cLoad tt x o.op = some u) (hr : rLoad x τ H = some out) : Good CR B H μ w ((execOp a.eval o).run P w) out := by
  unfold cLoad at hc
  split at hc <;> first | cases hc | skip
  rename_i t y ho
  obtain ⟨s, i, g1, g2, g3, g4, g5, g6⟩ := onT_some hT hc
  rw [yes?_some] at g6; simp only [Bool.and_eq_true, Bool.not_eq_true'] at g6
  unfold rLoad at hr
  obtain ⟨c, off, e, e1, e2, e3, e4⟩ := (ckO_sound hF g6.1).ptrE hr
  obtain ⟨v, hv, rfl⟩ := valK_some e4
  obtain ⟨z, hz, hcell⟩ := ld1_sound h e2 hv
  exact quietV h (y := z) (by simp [execOp, ho, Instr.loadAt, e3, Instr.sureAddr, run_loadVar_one g1 g6.2 _ hcell]) hz

theorem s_loadAgg (hT : TTok tt P) (hF : FR N μ τ a.tmps) (h : HR CR B H μ w) {n : Nat} {x : Opd} (hc : cLoadAgg tt n x o.op = some u) (hr : rLoadAgg n x τ H = some out) : Good CR B H μ w ((execOp a.eval o).run P w) out := by
  unfold cLoadAgg at hc
  split at hc <;> first | cases hc | skip
  rename_i t y ho
  obtain ⟨s, i, g1, g2, g3, g4, g5, g6⟩ := onT_some hT hc
  rw [yes?_some] at g6; simp only [Bool.and_eq_true] at g6
  obtain ⟨k1, k2, k3⟩ := g6
  have k3 : s.size = n := by simpa using k3
  unfold rLoadAgg at hr
  obtain ⟨c, off, e, e1, e2, e3, e4⟩ := (ckO_sound hF k1).ptrE hr
  obtain ⟨vs, hv, hh⟩ := obind_eq_some.1 e4; cases hh
  obtain ⟨ys, hy1, hy2, hy3⟩ := ld_sound h e2 hv
  exact quietV h (y := .agg ys.toArray) (by simp [execOp, ho, Instr.loadAt, e3, Instr.sureAddr, run_loadVar_agg g1 k2 g2 _ (run_loadCells_ld e off i.size ys (by rw [hy2, g3, k3]) hy3)]) ⟨_, rfl, by simpa using hy1⟩

theorem s_nilCheck (hF : FR N μ τ a.tmps) (h : HR CR B H μ w) {x : Opd} (hc : cNilCheck x o.op = some u) (hr : rNilCheck x τ H = some out) : Good CR B H μ w ((execOp a.eval o).run P w) out := by
  unfold cNilCheck at hc
  split at hc <;> first | cases hc | skip
  rename_i y ho
  rw [yes?_some] at hc
  have hv := ckO_sound hF hc
  unfold rNilCheck at hr
  split at hr <;> cases hr
  · rename_i p e; rw [e] at hv
    obtain ⟨b, off⟩ := p; obtain ⟨e', h1, h2⟩ := hv
    exact quietV h (y := a.eval y) (by simp [execOp, ho, h2]) ⟨e', h1, h2⟩
  · rename_i f p q e; rw [e] at hv
    obtain ⟨fs, cs, h1, h2⟩ := hv
    exact quietV h (y := a.eval y) (by simp [execOp, ho, h1]) ⟨fs, cs, h1, h2⟩
  · rename_i l e; rw [e] at hv
    obtain ⟨e', h1, h2⟩ := hv
    exact quietV h (y := a.eval y) (by simp [execOp, ho, h2]) ⟨e', h1, h2⟩
  · rename_i p l c x z e; rw [e] at hv
    refine quietV h (y := a.eval y) ?_ hv
    cases p with
    | none => obtain ⟨_, _, h3⟩ := hv; simp [execOp, ho, h3]
    | some p => obtain ⟨b, off⟩ := p; obtain ⟨a', c', h1, _⟩ := hv; simp [execOp, ho, h1]

theorem s_un (hF : FR N μ τ a.tmps) (h : HR CR B H μ w) {op : UnOp} {x : Opd} (hc : cUn op x o.op = some u) (hr : rUn op x τ H = some out) : Good CR B H μ w ((execOp a.eval o).run P w) out := by
  unfold cUn at hc
  split at hc <;> first | cases hc | skip
  rename_i op' t y ho
  rw [yes?_some] at hc; simp only [Bool.and_eq_true, decide_eq_true_eq] at hc
  obtain ⟨rfl, hc⟩ := hc
  obtain ⟨v, hv, rfl⟩ := valK_some hr
  have hx := ckO_sound hF hc
  unfold un at hv
  cases op <;> simp only at hv
  · obtain ⟨k, n, e1, e2, e3⟩ := hx.int hv
    cases e3
    exact quietV h (y := .int k (k.wrap (0 - n))) (by simp [execOp, ho, e2, Op.unary, Op.intArith]) (by rw [wrapK_eq]; rfl)
  · cases hv
  · obtain ⟨t, e1, e2, e3⟩ := hx.bool hv
    cases e3
    exact quietV h (y := .bool (!t)) (by simp [execOp, ho, e2, Op.unary]) rfl
  · cases hv

theorem s_convInt (hT : TTok tt P) (hF : FR N μ τ a.tmps) (h : HR CR B H μ w) {k : IntKind} {x : Opd} (hc : cConvInt tt k x o.op = some u) (hr : rConvInt k x τ H = some out) : Good CR B H μ w ((execOp a.eval o).run P w) out := by
  unfold cConvInt at hc
  split at hc <;> first | cases hc | skip
  rename_i t1 t2 y ho
  obtain ⟨s, i, g1, g2, g3, g4, g5, g6⟩ := onT_some hT hc
  obtain ⟨s', i', k1, k2, k3, k4, k5, k6⟩ := onT_some hT g6
  split at k6 <;> first | cases k6 | skip
  rename_i k' hd
  rw [yes?_some] at k6; simp only [Bool.and_eq_true, decide_eq_true_eq] at k6
  obtain ⟨rfl, k6⟩ := k6
  unfold rConvInt at hr
  obtain ⟨kk, n, e1, e2, e3⟩ := (ckO_sound hF k6).int hr
  cases e3
  refine quietV h (y := .int k (k.wrap n)) ?_ (by rw [wrapK_eq]; rfl)
  simp only [execOp, ho, e2, convert, Sem.run_bind, run_underlying g1, run_underlying k1, hd, Result.andThen_ok, Conv.intToInt, Sem.run_pure]

theorem s_convStr (hT : TTok tt P) (hF : FR N μ τ a.tmps) (h : HR CR B H μ w) {x : Opd} (hc : cConvStr tt x o.op = some u) (hr : rConvStr x τ H = some out) : Good CR B H μ w ((execOp a.eval o).run P w) out := by
  unfold cConvStr at hc
  split at hc <;> first | cases hc | skip
  rename_i t1 t2 y ho
  obtain ⟨s, i, g1, g2, g3, g4, g5, g6⟩ := onT_some hT hc
  obtain ⟨s', i', k1, k2, k3, k4, k5, k6⟩ := onT_some hT g6
  split at k6 <;> first | cases k6 | skip
  rename_i hd
  rw [yes?_some] at k6
  unfold rConvStr at hr
  obtain ⟨b, e1, e2, e3⟩ := (ckO_sound hF k6).str hr
  cases e3
  refine quietV h (y := .string ⟨b.toArray⟩) ?_ rfl
  simp only [execOp, ho, e2, convert, Sem.run_bind, run_underlying g1, run_underlying k1, hd, Result.andThen_ok, Sem.run_pure]

theorem s_mkIface (hT : TTok tt P) (hF : FR N μ τ a.tmps) (h : HR CR B H μ w) {t : Nat} {x : Opd} (hc : cMkIface tt t x o.op = some u) (hr : rMkIface t x τ H = some out) : Good CR B H μ w ((execOp a.eval o).run P w) out := by
  cases hr
  unfold cMkIface at hc
  split at hc <;> first | cases hc | skip
  rename_i t1 y ho
  obtain ⟨s, i, g1, g2, g3, g4, g5, g6⟩ := onT_some hT hc
  split at g6
  · cases g6
  · rename_i hd
    rw [yes?_some] at g6; simp only [Bool.and_eq_true] at g6
    have e : t = t1 := by simpa using g6.1
    subst e
    refine quietV h (y := .iface t (a.eval y)) ?_ ⟨_, rfl, ckO_sound hF g6.2⟩
    simp only [execOp, ho, Instr.makeInterface, Sem.run_bind, run_underlying g1, Result.andThen_ok]
    cases hd' : s.desc <;> first | (simp; done) | (exact absurd hd' (by simpa using hd _))

theorem s_mkFn (hF : FR N μ τ a.tmps) (h : HR CR B H μ w) {f : Nat} {x y : List Opd} (hc : cMkFn f x y o.op = some u) (hr : rMkFn f x y τ H = some out) : Good CR B H μ w ((execOp a.eval o).run P w) out := by
  cases hr
  unfold cMkFn at hc
  split at hc <;> first | cases hc | skip
  rename_i f' xs ys ho
  rw [yes?_some] at hc; simp only [Bool.and_eq_true] at hc
  have e : f = f' := by simpa using hc.1
  subst e
  exact quietV h (y := .func (.func f) (xs.map a.eval) (ys.map a.eval)) (by simp [execOp, ho, Instr.makeFunc]) ⟨_, _, rfl, by simpa using ckOs_sound hF hc.2.1, by simpa using ckOs_sound hF hc.2.2⟩

theorem s_fieldAddr (hT : TTok tt P) (hF : FR N μ τ a.tmps) (h : HR CR B H μ w) {off : Nat} {x : Opd} (hc : cFieldAddr tt off x o.op = some u) (hr : rFieldAddr off x τ H = some out) : Good CR B H μ w ((execOp a.eval o).run P w) out := by
  unfold cFieldAddr at hc
  split at hc <;> first | cases hc | skip
  rename_i t y f ho
  obtain ⟨s, i, g1, g2, g3, g4, g5, g6⟩ := onT_some hT hc
  split at g6 <;> first | cases g6 | skip
  rename_i fs hd
  split at g6 <;> first | cases g6 | skip
  rename_i fd hfd
  obtain ⟨s', i', k1, k2, k3, k4, k5, k6⟩ := onT_some hT g6
  rw [yes?_some] at k6; simp only [Bool.and_eq_true] at k6
  obtain ⟨e, k6, hpos⟩ := k6
  have e : fd.offset = off := by simpa using e
  have hpos : i'.size ≠ 0 := by have := Nat.le_of_ble_eq_true hpos; omega
  unfold rFieldAddr at hr
  obtain ⟨c, o', e', e1, e2, e3, e4⟩ := (ckO_sound hF k6).ptrE hr
  cases e4
  refine quietV h (y := .pointer (some ⟨e'.c, e'.d + (o' + off), none⟩)) ?_ ⟨e', e2, rfl⟩
  simp [execOp, ho, Instr.fieldAt, run_underlying g1, hd, hfd, e3, Instr.sureAddr, fieldPlace, run_sizeOf' k2, hpos, addr_add, e, Nat.add_assoc]

theorem idx_in {j : Int} {n : Nat} {x : Option Out} (h : ifb (and (ileb 0 j) (iltb j (.ofNat n))) x none = some out) : (0 ≤ j ∧ j < n) ∧ x = some out := by
  rw [ifb_none_eq_some, ileb_eq, iltb_eq] at h
  simp only [Bool.and_eq_true, decide_eq_true_eq] at h
  exact h

theorem s_idxAddrArr (hT : TTok tt P) (hF : FR N μ τ a.tmps) (h : HR CR B H μ w) {n esz : Nat} {x i : Opd} (hc : cIdxAddrArr tt n esz x i o.op = some u) (hr : rIdxAddrArr n esz x i τ H = some out) : Good CR B H μ w ((execOp a.eval o).run P w) out := by
  unfold cIdxAddrArr at hc
  split at hc <;> first | cases hc | skip
  rename_i t y z ho
  obtain ⟨s, ii, g1, g2, g3, g4, g5, g6⟩ := onT_some hT hc
  split at g6 <;> first | cases g6 | skip
  rename_i len el hd
  obtain ⟨s', i', k1, k2, k3, k4, k5, k6⟩ := onT_some hT g6
  rw [yes?_some] at k6; simp only [Bool.and_eq_true] at k6
  obtain ⟨q1, q2, q3, q4⟩ := k6
  have q1 : len = n := by simpa using q1
  have q2 : s'.size = esz := by simpa using q2
  unfold rIdxAddrArr at hr
  obtain ⟨c, o', e', e1, e2, e3, e4⟩ := (ckO_sound hF q3).ptrE hr
  obtain ⟨k, j, f1, f2, f3⟩ := (ckO_sound hF q4).int e4
  obtain ⟨⟨j0, j1⟩, f3⟩ := idx_in f3
  cases f3
  refine quietV h (y := .pointer (some ⟨e'.c, e'.d + (o' + j.toNat * esz), none⟩)) ?_ ⟨e', e2, rfl⟩
  have hjl : j < len := by omega
  simp [execOp, ho, Instr.indexAt, run_underlying g1, hd, e3, f2, asIntOf, Instr.sureAddr, run_sizeOf' k2, j0, hjl, addr_add, k3, q2, Nat.add_assoc]

theorem s_idxAddrSl (hT : TTok tt P) (hF : FR N μ τ a.tmps) (h : HR CR B H μ w) {esz : Nat} {x i : Opd} (hc : cIdxAddrSl tt esz x i o.op = some u) (hr : rIdxAddrSl esz x i τ H = some out) : Good CR B H μ w ((execOp a.eval o).run P w) out := by
  unfold cIdxAddrSl at hc
  split at hc <;> first | cases hc | skip
  rename_i t y z ho
  obtain ⟨s, ii, g1, g2, g3, g4, g5, g6⟩ := onT_some hT hc
  split at g6 <;> first | cases g6 | skip
  rename_i el hd
  obtain ⟨s', i', k1, k2, k3, k4, k5, k6⟩ := onT_some hT g6
  rw [yes?_some] at k6; simp only [Bool.and_eq_true] at k6
  obtain ⟨q2, q3, q4⟩ := k6
  have q2 : s'.size = esz := by simpa using q2
  unfold rIdxAddrSl at hr
  obtain ⟨p, l, cp, ex, z', e1, e2, e3⟩ := (ckO_sound hF q3).slE hr
  obtain ⟨⟨b, o'⟩, rfl, e2⟩ := obind_eq_some.1 e2
  obtain ⟨k, j, f1, f2, f3⟩ := (ckO_sound hF q4).int e2
  rw [ifb_none_eq_some] at f3
  obtain ⟨hz, f3⟩ := f3
  have hz : esz = z' := by simpa using hz
  subst hz
  obtain ⟨⟨j0, j1⟩, f3⟩ := idx_in f3
  cases f3
  obtain ⟨ad, cap', h1, h2, h3, h4, h5⟩ := e3
  rcases h5 with h5 | ⟨e', m1, m2, m3⟩
  · omega
  · refine quietV h (y := .pointer (some ⟨e'.c, e'.d + (o' + j.toNat * esz), none⟩)) ?_ ⟨e', m1, rfl⟩
    simp [execOp, ho, Instr.indexAt, run_underlying g1, hd, h1, f2, asIntOf, run_sizeOf' k2, j0, j1, m2, addr_add, k3, q2, Nat.add_assoc]

theorem s_idxStr (hT : TTok tt P) (hF : FR N μ τ a.tmps) (h : HR CR B H μ w) {x i : Opd} (hc : cIdxStr tt x i o.op = some u) (hr : rIdxStr x i τ H = some out) : Good CR B H μ w ((execOp a.eval o).run P w) out := by
  unfold cIdxStr at hc
  split at hc <;> first | cases hc | skip
  rename_i t y z ho
  obtain ⟨s, ii, g1, g2, g3, g4, g5, g6⟩ := onT_some hT hc
  split at g6 <;> first | cases g6 | skip
  rename_i hd
  rw [yes?_some] at g6; simp only [Bool.and_eq_true] at g6
  unfold rIdxStr at hr
  obtain ⟨b, e1, e2, e3⟩ := (ckO_sound hF g6.1).str hr
  obtain ⟨k, j, f1, f2, f3⟩ := (ckO_sound hF g6.2).int e3
  rw [ifb_none_eq_some, ileb_eq] at f3
  obtain ⟨j0, f3⟩ := f3
  have j0 : 0 ≤ j := by simpa using j0
  obtain ⟨c, hb, f3⟩ := obind_eq_some.1 f3
  cases f3
  rw [nth_eq] at hb
  have hlt : j.toNat < b.length := by
    rcases Nat.lt_or_ge j.toNat b.length with g | g
    · exact g
    · rw [List.getElem?_eq_none g] at hb; cases hb
  have hb' : b[j.toNat] = c := by rw [List.getElem?_eq_getElem hlt] at hb; injection hb
  refine quietV h (y := .int .u8 c.toNat) ?_ rfl
  have hget : (⟨b.toArray⟩ : ByteArray)[j.toNat]? = some c := by
    rw [getElem?_pos (⟨b.toArray⟩ : ByteArray) j.toNat (by show _ < b.toArray.size; simpa using hlt)]
    congr 1
  simp [execOp, ho, Instr.index, run_underlying g1, hd, e2, f2, asIntOf, j0, hget]

theorem s_extract (hF : FR N μ τ a.tmps) (h : HR CR B H μ w) {x : Opd} {i : Nat} (hc : cExtract x i o.op = some u) (hr : rExtract x i τ H = some out) : Good CR B H μ w ((execOp a.eval o).run P w) out := by
  unfold cExtract at hc
  split at hc <;> first | cases hc | skip
  rename_i y j ho
  rw [yes?_some] at hc; simp only [Bool.and_eq_true] at hc
  have e : i = j := by simpa using hc.1
  subst e
  unfold rExtract at hr
  obtain ⟨cs, ys, e1, e2, e3, e4⟩ := (ckO_sound hF hc.2).tupE hr
  obtain ⟨v, hv, rfl⟩ := valK_some e4
  rw [nth_eq] at hv
  obtain ⟨z, hz, hr⟩ := e3.get hv
  rw [Array.getElem?_toList] at hz
  exact quietV h (y := z) (by simp [execOp, ho, e2, Instr.extract, hz]) hr

theorem boundO_some (hF : FR N μ τ a.tmps) {m d n : Nat} {x : Option Opd} {y : Option Operand} (hc : ckOo x y = true) (h : boundO τ m d x = some n) :
    (x = none ∧ y = none ∧ n = d) ∨ ∃ x' y' k i, x = some x' ∧ y = some y' ∧ a.eval y' = .int k i ∧ 0 ≤ i ∧ i ≤ m ∧ i.toNat = n := by
  cases x <;> cases y <;> simp [ckOo] at hc
  · cases h; exact .inl ⟨rfl, rfl, rfl⟩
  · rename_i x y
    have h : bound m (x.ev τ) = some n := h
    unfold bound at h
    obtain ⟨k, i, e1, e2, e3⟩ := (ckO_sound hF hc).int h
    rw [ifb_none_eq_some, ifb_none_eq_some, ileb_eq, ileb_eq] at e3
    simp only [decide_eq_true_eq, Option.some.injEq] at e3
    exact .inr ⟨x, y, k, i, rfl, rfl, e2, e3.1, e3.2.1, e3.2.2⟩

theorem run_sliceBound {k : IntKind} {i : Int} {m : Nat} (c : BoundsCode) (h0 : 0 ≤ i) (h1 : i ≤ m) : (Instr.sliceBound (.int k i) m c).run P w = .ok i.toNat w := by
  simp [Instr.sliceBound, asIntOf, h0, h1]

/-- The bounds of a slice expression without a third index. -/
theorem run_sliceBounds2 (hF : FR N μ τ a.tmps) {lo hi : Option Opd} {l h : Option Operand} {m d lo' hi' : Nat} (b : Bool) (c1 : ckOo lo l = true) (c2 : ckOo hi h = true) (hd : d ≤ m)
    (e2 : boundO τ m d hi = some hi') (e1 : boundO τ hi' 0 lo = some lo') : (Instr.sliceBounds b d m (l.map a.eval) (h.map a.eval) none).run P w = .ok (lo', hi', m) w ∧ lo' ≤ hi' ∧ hi' ≤ m := by
  rcases boundO_some hF c2 e2 with ⟨rfl, rfl, rfl⟩ | ⟨x2, y2, k2, i2, rfl, rfl, g2, p2, q2, r2⟩ <;>
  rcases boundO_some hF c1 e1 with ⟨rfl, rfl, rfl⟩ | ⟨x1, y1, k1, i1, rfl, rfl, g1, p1, q1, r1⟩
  · exact ⟨by simp [Instr.sliceBounds], Nat.zero_le _, hd⟩
  · exact ⟨by simp [Instr.sliceBounds, g1, run_sliceBound _ p1 q1, r1], by omega, hd⟩
  · exact ⟨by cases b <;> simp [Instr.sliceBounds, g2, run_sliceBound _ p2 q2, r2], by omega, by omega⟩
  · subst r2
    exact ⟨by cases b <;> simp [Instr.sliceBounds, g1, g2, run_sliceBound _ p2 q2, run_sliceBound _ p1 q1, r1], by omega, by omega⟩

theorem s_sliceStr (hT : TTok tt P) (hF : FR N μ τ a.tmps) (h : HR CR B H μ w) {x : Opd} {lo hi : Option Opd} (hc : cSliceStr tt x lo hi o.op = some u) (hr : rSliceStr x lo hi τ H = some out) : Good CR B H μ w ((execOp a.eval o).run P w) out := by
  unfold cSliceStr at hc
  split at hc <;> first | cases hc | skip
  rename_i t y l hh ho
  obtain ⟨s, ii, g1, g2, g3, g4, g5, g6⟩ := onT_some hT hc
  split at g6 <;> first | cases g6 | skip
  rename_i hd
  rw [yes?_some] at g6; simp only [Bool.and_eq_true] at g6
  obtain ⟨k1, k2, k3⟩ := g6
  unfold rSliceStr at hr
  obtain ⟨b, e1, e2, e3⟩ := (ckO_sound hF k1).str hr
  obtain ⟨h', e4, e3⟩ := obind_eq_some.1 e3
  obtain ⟨l', e5, e3⟩ := obind_eq_some.1 e3
  cases e3
  obtain ⟨r1, r2, r3⟩ := run_sliceBounds2 (P := P) (w := w) hF false k2 k3 (Nat.le_refl _) e4 e5
  have hsz : (⟨b.toArray⟩ : ByteArray).size = b.length := by show b.toArray.size = _; simp
  refine quietV h (y := .string (ByteArray.extract ⟨b.toArray⟩ l' h')) ?_ ?_
  · simp only [execOp, ho, e2, Instr.sliceAt, Sem.run_bind, run_underlying g1, hd, Result.andThen_ok, Instr.slice, Option.map_none, Option.isSome_none, Bool.false_eq_true, if_false, Sem.run_pure, hsz, r1]
  · show Value.string _ = _
    congr 1
    apply ByteArray.ext
    rw [ByteArray.data_extract]
    apply Array.ext'
    simp [List.extract_eq_take_drop, List.drop_take]
end
end Go.Ai
