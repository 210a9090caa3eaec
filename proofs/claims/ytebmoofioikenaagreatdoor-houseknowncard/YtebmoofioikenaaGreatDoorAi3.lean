/- The heap's own steps, tied to the model's memory. -/
import Derived.Test.YtebmoofioikenaaGreatDoorAi2
namespace Go.Ai
open Go

theorem allOne_iff {l : List AV} : allOne l = true ↔ ∀ v ∈ l, v.one = true := by
  induction l with
  | nil => simp [allOne]
  | cons v l ih =>
    show ifb v.one (allOne l) false = true ↔ _
    cases h : v.one <;> simp [h, ih]

theorem VR.one {μ : Mu} {a : AV} {v : Value} (h : VR μ a v) (ho : a.one = true) : v.oneCell' = true := by
  cases a <;> simp [AV.one, AV.el] at ho
  case bool => cases h; rfl
  case int => cases h; rfl
  case str => cases h; rfl
  case ptr a => cases a with
    | none => cases h; rfl
    | some p => obtain ⟨b, o⟩ := p; obtain ⟨e, _, h2⟩ := h; subst h2; rfl
  case sl a l c x z => cases a with
    | none => obtain ⟨_, _, h3⟩ := h; subst h3; rfl
    | some p => obtain ⟨b, o⟩ := p; obtain ⟨a, c', h1, _⟩ := h; subst h1; rfl
  case map r => cases r with
    | none => cases h; rfl
    | some b => obtain ⟨e, _, h2⟩ := h; subst h2; rfl
  case fn => obtain ⟨fs, cs, h1, _⟩ := h; subst h1; rfl
  case yld => obtain ⟨e, _, h2⟩ := h; subst h2; rfl
  case nilFn => cases h; rfl
  case iface => obtain ⟨y, h1, _⟩ := h; subst h1; rfl
  case nilIface => cases h; rfl

/-! ### Stores into a row some of whose end may be frozen -/
theorem run_storeCells_un {P : Program} (g o : Nat) (t : TypeId) (fz : Nat × Nat) : ∀ (vs : List Value) (i : Nat) (cur : Array Value) (w : World), w.heap[g]? = some (.cells cur t fz) →
    o + i + vs.length ≤ cur.size → (∀ v ∈ vs, v.oneCell' = true) → (∀ k, k < cur.size → ¬ (fz.1 ≤ k ∧ k < fz.2)) →
    (storeCells ⟨g, o, none⟩ vs i).run P w = .ok () (w.setRow g (cur.toList.take (o + i) ++ vs ++ cur.toList.drop (o + i + vs.length)).toArray)
  | [], i, cur, w, hg, _, _, _ => by
    simp only [storeCells, List.append_nil, List.length_nil, Nat.add_zero, List.take_append_drop, Array.toArray_toList]
    rw [setRow_self w g cur t fz hg]
    rfl
  | v :: rest, i, cur, w, hg, hl, h1, hf => by
    have hi : o + i < cur.size := by simp at hl; omega
    have hadd : (⟨g, o, none⟩ : Addr).add i = ⟨g, o + i, none⟩ := by unfold Addr.add; split <;> simp_all
    have hcell : w.cell? ⟨g, o + i, none⟩ = some cur[o + i] := by simp [World.cell?, hg, hi]
    have hfro : w.frozen? ⟨g, o + i, none⟩ = false := by
      have := hf (o + i) hi
      simp only [World.frozen?, hg, Bool.and_eq_false_iff, decide_eq_false_iff_not]
      by_cases h : fz.1 ≤ o + i
      · exact .inr fun h' => this ⟨h, h'⟩
      · exact .inl h
    have hst : (store ((⟨g, o, none⟩ : Addr).add i) v).run P w = .ok () (w.setRow g (cur.setIfInBounds (o + i) v)) := by
      rw [hadd, run_store P w _ v _ (h1 v (by simp)), hcell]
      simp [hfro, setCell_eq_setRow w g (o + i) cur t fz v hg]
    have ih := run_storeCells_un (P := P) g o t fz rest (i + 1) (cur.setIfInBounds (o + i) v) (w.setRow g (cur.setIfInBounds (o + i) v)) (setRow_heap w g cur _ t _ hg) (by simp at hl ⊢; omega) (fun x hx => h1 x (by simp [hx]))
      (fun k hk => hf k (by simpa using hk))
    simp only [storeCells, Sem.run_bind, hst, Result.andThen_ok, ih, setRow_setRow]
    congr 3
    have e := list_seg_step cur.toList (o + i) v rest (by simp at hl ⊢; omega)
    simpa [Array.toList_setIfInBounds, Nat.add_assoc] using e

/-! ### What is said of a block -/
def exCode : Ex → Code
  | .ret => .ret
  | .exit id => .exit id
  | .normal => .skip

def stNum : LoopState → Nat
  | .ready => 0
  | .busy => 1
  | .done => 2
  | .exhausted => 3

/-- A frame's slots. N: how many there are. -/
def FR (N : Nat) (μ : Mu) (τ : Fr AV) (tmps : Array Value) : Prop :=
  N ≤ tmps.size ∧ ∀ p : Pth, VR μ ((τ.get p).ogetU) (tmps.getD p.num undef)

/-- What is said of code: a parameter here. -/
abbrev CRel := Nat → ICode → Code → Prop

def MR (μ : Mu) : List (AV × AV) → List MapEntry → Prop
  | [], ms => ms = []
  | e :: es, ms => ∃ m r, ms = m :: r ∧ VR μ e.1 m.key ∧ VR μ e.2 m.val ∧ MR μ es r

theorem MR.mono {μ μ' : Mu} (h : μ.le μ') : ∀ (es : List (AV × AV)) (ms : List MapEntry), MR μ es ms → MR μ' es ms
  | [], _, x => x
  | _ :: es, _, ⟨m, r, h1, h3, h4, h5⟩ => ⟨m, r, h1, h3.mono h, h4.mono h, MR.mono h es _ h5⟩

/-- What a block's word on its type says. -/
def tyOk (ty t d l s : Nat) : Prop := ty = 0 ∨ ty = 1 ∨ (ty = 3 * t + 2 ∧ d = 0 ∧ l = s) ∨ (ty = 3 * t + 3 ∧ d = 0)

def BR (CR : CRel) (μ : Mu) (x : ABlk) (e : Img) (w : World) : Prop :=
  match x with
  | .cells ro vs ty => ∃ cs t fz, w.heap[e.c]? = some (.cells cs t fz) ∧ cs.size = e.d + e.n ∧ VRs μ vs ((cs.toList.drop e.d).take vs.length) ∧
      (ro = false → ∀ k, k < cs.size → ¬ (fz.1 ≤ k ∧ k < fz.2)) ∧ tyOk ty t e.d vs.length cs.size
  | .map es => ∃ ms clock, w.heap[e.c]? = some (.map ms clock) ∧ MR μ es ms.toList
  | .loop st pend τ ps asg body => ∃ l : Loop, ∃ N, w.heap[e.c]? = some (.loop l) ∧ stNum l.state = st ∧ l.pending = pend.map exCode ∧ FR N μ τ l.tmps ∧
      (∀ p ∈ ps, p.num < N) ∧ l.params.toList = ps.map Pth.num ∧ CR N asg l.assign ∧ CR N body l.body
  | .iter s pos => w.heap[e.c]? = some (.stringIter ⟨s.toArray⟩ pos) ∧ e.d = 0

theorem FR.mono {N : Nat} {μ μ' : Mu} {τ : Fr AV} {tmps : Array Value} (h : μ.le μ') (x : FR N μ τ tmps) : FR N μ' τ tmps := ⟨x.1, fun p => (x.2 p).mono h⟩

theorem BR.mono {CR : CRel} {μ μ' : Mu} {x : ABlk} {e : Img} {w : World} (h : μ.le μ') (b : BR CR μ x e w) : BR CR μ' x e w := by
  cases x with
  | cells ro vs ty => obtain ⟨cs, t, fz, h1, h2, h3, h4⟩ := b; exact ⟨cs, t, fz, h1, h2, h3.mono h, h4⟩
  | map es => obtain ⟨ms, c, h1, h2⟩ := b; exact ⟨ms, c, h1, h2.mono h⟩
  | loop st pend τ ps asg body => obtain ⟨l, N, h1, h2, h3, h4, h5⟩ := b; exact ⟨l, N, h1, h2, h3, h4.mono h, h5⟩
  | iter s pos => exact b

theorem BR.heap {CR : CRel} {μ : Mu} {x : ABlk} {e : Img} {w w' : World} (h : w'.heap[e.c]? = w.heap[e.c]?) (b : BR CR μ x e w) : BR CR μ x e w' := by
  cases x with
  | cells ro vs ty => obtain ⟨cs, t, fz, h1, h2⟩ := b; exact ⟨cs, t, fz, h.trans h1, h2⟩
  | map es => obtain ⟨ms, c, h1, h2⟩ := b; exact ⟨ms, c, h.trans h1, h2⟩
  | loop st pend τ ps asg body => obtain ⟨l, N, h1, h2⟩ := b; exact ⟨l, N, h.trans h1, h2⟩
  | iter s pos => exact ⟨h.trans b.1, b.2⟩

def zone (o : Option Obj) : Option (Nat × Nat) :=
  match o with
  | some (.cells _ _ fz) => some fz
  | _ => none
theorem frozen_zone {w w' : World} {a a' : Addr} (ho : a.off = a'.off) (h : zone w'.heap[a.block]? = zone w.heap[a'.block]?) : w'.frozen? a = w.frozen? a' := by
  have key : ∀ (o : Option Obj) (k : Nat), (match o with | some (.cells _ _ (lo, hi)) => decide (lo ≤ k) && decide (k < hi) | _ => false) = (match zone o with | some (lo, hi) => decide (lo ≤ k) && decide (k < hi) | none => false) := by
    intro o k
    cases o with
    | none => rfl
    | some o => cases o <;> rfl
  have e1 : w'.frozen? a = (match zone w'.heap[a.block]? with | some (lo, hi) => decide (lo ≤ a.off) && decide (a.off < hi) | none => false) := key _ _
  have e2 : w.frozen? a' = (match zone w.heap[a'.block]? with | some (lo, hi) => decide (lo ≤ a'.off) && decide (a'.off < hi) | none => false) := key _ _
  rw [e1, e2, h, ho]

def ABlk.ro : ABlk → Bool
  | .cells ro _ _ => ro
  | _ => false

/-- May the block be changed? -/
def AH.canW (H : AH) (b : Nat) : Prop := (∃ x, H.view b = some x ∧ x.ro = false) ∧ H.may b = true

/-- What ties a heap to a memory. B: blocks below it are as they were when all began. -/
structure HR (CR : CRel) (B : Nat) (H : AH) (μ : Mu) (w : World) : Prop where
  blk : ∀ b e x, μ b = some e → H.view b = some x → BR CR μ x e w
  sep : ∀ b b' e e' x x', b ≠ b' → μ b = some e → μ b' = some e' → H.view b = some x → H.view b' = some x' → x.ro = false → e.c ≠ e'.c
  low : ∀ b e x, μ b = some e → H.view b = some x → x.ro = false → B ≤ e.c
  ins : ∀ b e, μ b = some e → e.c < w.heap.size
  top : ∀ b, H.next ≤ b → H.blk.get b = none
  lim : H.lim ≤ H.next
  hid : H.hidAt ≤ H.next ∧ ∀ b ∈ H.hid, b < H.next
  exc : ∀ b ∈ H.exc, b < H.next
  base : B ≤ w.heap.size
  gl : ∀ b x, H.view b = some x → x.glb = true → ∃ e, μ b = some e ∧ e.c = b ∧ e.d = 0

/-- From one state to a later one. -/
structure Ext (H : AH) (μ : Mu) (w : World) (H' : AH) (μ' : Mu) (w' : World) : Prop where
  le : μ.le μ'
  new : ∀ b e, μ' b = some e → μ b = some e ∨ (μ b = none ∧ H.next ≤ b ∧ b < H'.next)
  size : w.heap.size ≤ w'.heap.size
  keep : ∀ c, c < w.heap.size → (∀ b e, μ b = some e → e.c = c → ¬ H.canW b) → w'.heap[c]? = w.heap[c]?
  img : ∀ b e, μ' b = some e → μ b = none → w.heap.size ≤ e.c ∨ ∃ b₀ e₀, μ b₀ = some e₀ ∧ e₀.c = e.c ∧ H.canW b₀
  next : H.next ≤ H'.next
  old : ∀ b, b < H.next → H'.canW b → H.canW b
  oldv : ∀ b x, b < H.next → H'.view b = some x → (∃ y, H.view b = some y ∧ (x.ro = false → y.ro = false)) ∧ (¬ H.canW b → H.view b = some x)
  os : w'.os = w.os ∧ w'.output = w.output
  perm : H'.lim = H.lim ∧ H'.exc = H.exc ∧ H'.hidAt = H.hidAt ∧ H'.hid = H.hid

def Fresh (μ : Mu) (H H' : AH) : Prop := ∀ b, H.next ≤ b → b < H'.next → μ b = none

theorem Ext.refl (H : AH) (μ : Mu) (w : World) : Ext H μ w H μ w :=
  ⟨μ.le_refl, fun _ _ h => .inl h, Nat.le_refl _, fun _ _ _ => rfl, fun _ _ h h' => (by rw [h] at h'; cases h'), Nat.le_refl _, fun _ _ h => h, fun _ x _ h => ⟨⟨x, h, id⟩, fun _ => h⟩, ⟨rfl, rfl⟩, rfl, rfl, rfl, rfl⟩

theorem Ext.trans {H H₁ H₂ : AH} {μ μ₁ μ₂ : Mu} {w w₁ w₂ : World} (h : Ext H μ w H₁ μ₁ w₁) (h' : Ext H₁ μ₁ w₁ H₂ μ₂ w₂) (hf : Fresh μ H H₁) (ht : ∀ b, H₁.next ≤ b → H₁.blk.get b = none) : Ext H μ w H₂ μ₂ w₂ := by
  have hins : ∀ b e, μ b = some e → b < H.next ∨ ∀ x, H₁.view b ≠ some x := by
    intro b e hb
    by_cases h1 : b < H.next
    · exact .inl h1
    · refine .inr fun x hx => ?_
      by_cases h2 : b < H₁.next
      · rw [hf b (by omega) h2] at hb; cases hb
      · have := ht b (by omega)
        unfold AH.view at hx
        rw [ifb_none_eq_some', ifb_none_eq_some', this] at hx
        cases hx.2.2
  have noW : ∀ c, c < w.heap.size → (∀ b e, μ b = some e → e.c = c → ¬ H.canW b) → ∀ b e, μ₁ b = some e → e.c = c → ¬ H₁.canW b := by
    intro c hc hno b e hb he hw
    rcases h.new b e hb with hb' | ⟨hb', h1, h2⟩
    · rcases hins b e hb' with hl | hv
      · exact hno b e hb' he (h.old b hl hw)
      · obtain ⟨⟨x, hx, _⟩, _⟩ := hw; exact hv x hx
    · rcases h.img b e hb hb' with g | ⟨b₀, e₀, g1, g2, g3⟩
      · omega
      · exact hno b₀ e₀ g1 (g2.trans he) g3
  refine ⟨Mu.le_trans h.le h'.le, fun b e hb => ?_, Nat.le_trans h.size h'.size, fun c hc hno => ?_, fun b e hb hn => ?_, Nat.le_trans h.next h'.next, fun b hb hw => ?_, fun b x hb hx => ?_, ⟨h'.os.1.trans h.os.1, h'.os.2.trans h.os.2⟩, ?_⟩
  · rcases h'.new b e hb with g | ⟨g, g1, g2⟩
    · rcases h.new b e g with k | ⟨k, k1, k2⟩
      · exact .inl k
      · exact .inr ⟨k, k1, Nat.lt_of_lt_of_le k2 h'.next⟩
    · refine .inr ⟨?_, Nat.le_trans h.next g1, g2⟩
      cases hm : μ b with
      | none => rfl
      | some e' => rw [h.le b e' hm] at g; cases g
  · rw [h'.keep c (Nat.lt_of_lt_of_le hc h.size) (noW c hc hno), h.keep c hc hno]
  · cases hm : μ₁ b with
    | none =>
      rcases h'.img b e hb hm with g | ⟨b₀, e₀, g1, g2, g3⟩
      · exact .inl (Nat.le_trans h.size g)
      · by_cases hlt : w.heap.size ≤ e.c
        · exact .inl hlt
        · refine .inr ?_
          apply Classical.byContradiction
          intro hno
          exact noW e.c (by omega) (fun b e' hb he hw => hno ⟨b, e', hb, he, hw⟩) b₀ e₀ g1 g2 g3
    | some e' =>
      have : e' = e := by have := h'.le b e' hm; rw [hb] at this; cases this; rfl
      subst this
      exact h.img b e' hm hn
  · exact h.old b hb (h'.old b (Nat.lt_of_lt_of_le hb h.next) hw)
  · obtain ⟨⟨y, hy, hr⟩, hk⟩ := h'.oldv b x (Nat.lt_of_lt_of_le hb h.next) hx
    obtain ⟨⟨z, hz, hr'⟩, hk'⟩ := h.oldv b y hb hy
    refine ⟨⟨z, hz, fun k => hr' (hr k)⟩, fun hno => ?_⟩
    have hy' := hk' hno
    rw [hz] at hy'; cases hy'
    have : ¬ H₁.canW b := fun hw => hno (h.old b hb hw)
    have := hk this
    rw [hy] at this; cases this; exact hz
  · obtain ⟨a1, a2, a3, a4⟩ := h.perm; obtain ⟨b1, b2, b3, b4⟩ := h'.perm
    exact ⟨b1.trans a1, b2.trans a2, b3.trans a3, b4.trans a4⟩
end Go.Ai
