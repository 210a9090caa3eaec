/- Regions that draw their order: the invariant. -/
import Derived.Test.YtebmoofioikenaaGreatDoorAi16
namespace Go.Ai
open Go

section
variable (CR : CRel) (B N : Nat) (X : Opd → List Nat) (os : List IOper) (H₀ : AH) (μ₀ : Mu) (w₀ : World) (ds₀ : List Deferred) (T : Nat → Fr AV) (Hs : Nat → AH)

structure Inv (S : Nat → Prop) (a : Act) (μ : Mu) (w : World) : Prop where
  fsize : N ≤ a.tmps.size
  fr : ∀ p : Pth, VR μ ((DS os T S p).ogetU) (a.tmps.getD p.num undef)
  defs : a.defers = ds₀
  blk : ∀ b e x, μ b = some e → ¬ H₀.hidden b → GS X os H₀ Hs S b = some x → BR CR μ x e w
  sep : ∀ b b' e e' x x', b ≠ b' → μ b = some e → μ b' = some e' → ¬ H₀.hidden b → ¬ H₀.hidden b' → GS X os H₀ Hs S b = some x → GS X os H₀ Hs S b' = some x' → x.ro = false → e.c ≠ e'.c
  low : ∀ b e x, μ b = some e → ¬ H₀.hidden b → GS X os H₀ Hs S b = some x → x.ro = false → B ≤ e.c
  ins : ∀ b e, μ b = some e → e.c < w.heap.size
  base : B ≤ w.heap.size
  dom : ∀ b e, μ b = some e → μ₀ b = some e ∨ (μ₀ b = none ∧ ∃ k, S k ∧ k < os.length ∧ (Hs k).next ≤ b ∧ b < (Hs (k + 1)).next)
  le : μ₀.le μ
  size : w₀.heap.size ≤ w.heap.size
  keep : ∀ c, c < w₀.heap.size → (∀ b e, μ₀ b = some e → e.c = c → ¬ H₀.canW b) → w.heap[c]? = w₀.heap[c]?
  img : ∀ b e, μ b = some e → μ₀ b = none → w₀.heap.size ≤ e.c ∨ ∃ b₀ e₀, μ₀ b₀ = some e₀ ∧ e₀.c = e.c ∧ H₀.canW b₀
  os : w.os = w₀.os ∧ w.output = w₀.output
end

section
variable {CR : CRel} {B N : Nat} {X : Opd → List Nat} {os : List IOper} {H₀ : AH} {μ₀ : Mu} {w₀ : World} {ds₀ : List Deferred} {T : Nat → Fr AV} {Hs : Nat → AH}

theorem mix_none {β : Type} {S t : Nat → Prop} {f : Nat → β} (h : ∀ k, ¬ S k) : ∀ n, mix S t f n = f 0
  | 0 => rfl
  | n + 1 => by unfold mix; rw [if_neg (fun g => h n g.1)]; exact mix_none h n

theorem Inv.start {rec : Task → Option Res} (hL : Line rec X os H₀ T Hs) {a : Act} (hF : FR N μ₀ (T 0) a.tmps) (h : HR CR B H₀ μ₀ w₀) {S : Nat → Prop} (hS : ∀ k, ¬ S k) : Inv CR B N X os H₀ μ₀ w₀ a.defers T Hs S a μ₀ w₀ := by
  have hg : ∀ b, GS X os H₀ Hs S b = H₀.blk.get b := fun b => by rw [GS, mix_none hS, hL.h0]
  refine ⟨hF.1, fun p => by rw [DS, mix_none hS]; exact hF.2 p, rfl, fun b e x hm hh hx => ?_, fun b b' e e' x x' hne h1 h2 g1 g2 x1 x2 hro => ?_, fun b e x hm hh hx hro => ?_, h.ins, h.base, fun b e hb => .inl hb, μ₀.le_refl, Nat.le_refl _, fun _ _ _ => rfl, fun b e h1 h2 => (by rw [h1] at h2; cases h2), rfl, rfl⟩
  · rw [hg] at hx; exact h.blk b e x hm (view_iff.2 ⟨hh, hx⟩)
  · rw [hg] at x1 x2; exact h.sep b b' e e' x x' hne h1 h2 (view_iff.2 ⟨g1, x1⟩) (view_iff.2 ⟨g2, x2⟩) hro
  · rw [hg] at hx; exact h.low b e x hm (view_iff.2 ⟨hh, hx⟩) hro

section
variable {rec : Task → Option Res} {tt : TT} {ops : Array Oper} (st : Static tt N os ops) (hL : Line rec X os H₀ T Hs) (hr : RecAE rec) (h₀ : HR CR B H₀ μ₀ w₀) (hfr : Fresh μ₀ H₀ (Hs os.length))
  {S : Nat → Prop} (hS : Down os S) {i : Nat} {x : IOper} (hx : os[i]? = some x) (hi : ¬ S i) (hpre : ∀ k, PredOf os i k → S k) {a : Act} {μ : Mu} {w : World} (I : Inv CR B N X os H₀ μ₀ w₀ ds₀ T Hs S a μ w)
include hL hr h₀ hfr I

/-- A mapped block was there before, or has been laid by an operation that was made. -/
theorem Inv.laid {b : Nat} {e : Img} (hb : μ b = some e) : ∀ k, k < os.length → (Hs k).next ≤ b → b < (Hs (k + 1)).next → S k := by
  have _ := h₀
  intro k hk h1 h2
  rcases I.dom b e hb with g | ⟨_, k', g1, g2, g3, g4⟩
  · have := hfr b (Nat.le_trans (hL.aeTo hr (Nat.le_of_lt hk)).next h1) (Nat.lt_of_lt_of_le h2 (hL.mono hr (i := k + 1) (k := os.length) hk (Nat.le_refl _)))
    rw [this] at g; cases g
  · rcases Nat.lt_trichotomy k k' with q | q | q
    · have := hL.mono hr (i := k + 1) (k := k') q (Nat.le_of_lt g2); omega
    · rw [q]; exact g1
    · have := hL.mono hr (i := k' + 1) (k := k) q (Nat.le_of_lt hk); omega

include st hx hi hpre hS
theorem Inv.heap : HR CR B (fence (rgs Hs i x) (xsOf X x) x.flag (Hs i)) μ w := by
  have hil : i < os.length := (List.getElem?_eq_some_iff.1 hx).1
  have ae := hL.aeTo hr (Nat.le_of_lt hil)
  have hsee : ∀ b z e, μ b = some e → (fence (rgs Hs i x) (xsOf X x) x.flag (Hs i)).view b = some z → GS X os H₀ Hs S b = some z ∧ ¬ H₀.hidden b := fun b z e hb hv => by
    obtain ⟨g1, g2⟩ := seen_at st hx hi hpre hL hr h₀.top hS hv (I.laid hL hr h₀ hfr hb)
    refine ⟨g1, ?_⟩
    have := (view_iff.1 g2).1
    unfold AH.hidden at this ⊢
    rw [ae.perm.2.2.1, ae.perm.2.2.2] at this
    exact this
  refine ⟨fun b e z hb hv => ?_, fun b b' e e' z z' hne h1 h2 v1 v2 hro => ?_, fun b e z hb hv hro => ?_, I.ins, fun b hb => ?_, ?_, ?_, ?_, I.base, fun b z hv hg => ?_⟩
  · obtain ⟨g1, g2⟩ := hsee b z e hb hv; exact I.blk b e z hb g2 g1
  · obtain ⟨g1, g2⟩ := hsee b z e h1 v1
    obtain ⟨k1, k2⟩ := hsee b' z' e' h2 v2
    exact I.sep b b' e e' z z' hne h1 h2 g2 k2 g1 k1 hro
  · obtain ⟨g1, g2⟩ := hsee b z e hb hv; exact I.low b e z hb g2 g1 hro
  · rw [fence_blk]; exact ae.top h₀.top b (by simpa using hb)
  · have h1 := h₀.lim; have h2 := ae.next; have h3 := ae.perm.1
    unfold fence; cases hh : Hs i; rw [hh] at h2 h3; simp only [ifb_eq]
    repeat' split
    all_goals (simp at h2 h3 ⊢; try omega)
  · have h1 := h₀.hid; have h2 := ae.next; have h3 := ae.perm.2.2
    unfold fence; cases hh : Hs i; rw [hh] at h2 h3; simp only [ifb_eq]
    simp at h2 h3
    obtain ⟨h3, h4⟩ := h3
    repeat' split
    all_goals (simp only [h3, h4])
    · exact ⟨Nat.le_trans h1.1 h2, fun b hb => Nat.lt_of_lt_of_le (h1.2 b hb) h2⟩
    · exact ⟨Nat.le_trans h1.1 h2, fun b hb => Nat.lt_of_lt_of_le (h1.2 b hb) h2⟩
    · exact ⟨Nat.le_refl _, fun b hb => Nat.lt_of_lt_of_le (h1.2 b hb) h2⟩
    · exact ⟨Nat.le_trans h1.1 h2, fun b hb => Nat.lt_of_lt_of_le (h1.2 b hb) h2⟩
    · refine ⟨Nat.le_trans h1.1 h2, fun b hb => ?_⟩
      rcases List.mem_append.1 hb with g | g
      · simp at g; omega
      · exact Nat.lt_of_lt_of_le (h1.2 b g) h2
  · have h1 := h₀.exc; have h2 := ae.next; have h3 := ae.perm.2.1
    unfold fence; cases hh : Hs i; rw [hh] at h2 h3; simp only [ifb_eq]
    simp at h2 h3
    repeat' split
    all_goals (simp only)
    · rw [h3]; exact fun b hb => Nat.lt_of_lt_of_le (h1 b hb) h2
    · simp
    · simp
    · intro b hb; simp at hb; omega
    · simp
  · obtain ⟨v1, _, _⟩ := fence_view (ae.top h₀.top) hv
    obtain ⟨v2, v3⟩ := view_iff.1 v1
    have hlt : b < H₀.next := by
      apply Classical.byContradiction; intro hn
      have := ae.newg h₀.top b z (by omega) v3
      rw [hg] at this; cases this
    obtain ⟨y, y1, _, _, y4⟩ := ae.vis h₀.top b z hlt v3
    have hnh : ¬ H₀.hidden b := by
      unfold AH.hidden at v2 ⊢
      rw [ae.perm.2.2.1, ae.perm.2.2.2] at v2; exact v2
    obtain ⟨e, e1, e2⟩ := h₀.gl b y (view_iff.2 ⟨hnh, y1⟩) (y4 hg)
    exact ⟨e, I.le b e e1, e2⟩

theorem Inv.frame : FR N μ ((T i).keep fun p => decide (p ∈ x.reads)) a.tmps := by
  have _ := hr; have _ := h₀; have _ := hfr
  refine ⟨I.fsize, fun p => ?_⟩
  rw [Fr.get_keep]
  by_cases hp : p ∈ x.reads
  · rw [if_pos (by simpa using hp), ← slot_at st hx hi hpre hL hS hp]; exact I.fr p
  · rw [if_neg (by simpa using hp)]; trivial

theorem Inv.fresh {R : AH} (hR : Hs (i + 1) = unfence (Hs i) R) : Fresh μ (fence (rgs Hs i x) (xsOf X x) x.flag (Hs i)) R := by
  have _ := st; have _ := hS; have _ := hpre
  have hil : i < os.length := (List.getElem?_eq_some_iff.1 hx).1
  intro b h1 h2
  cases hb : μ b with
  | none => rfl
  | some e => exact absurd (I.laid hL hr h₀ hfr hb i hil (by simpa using h1) (by rw [hR]; simpa using h2)) hi

/-- One more operation has been made. -/
theorem Inv.step {R : AH} {v : AV} {y : Value} {μ' : Mu} {w' : World} {t : Option Tmp} (hev : evOp rec x (T i) (fence (rgs Hs i x) (xsOf X x) x.flag (Hs i)) = some (T (i + 1), R)) (hR : Hs (i + 1) = unfence (Hs i) R) (hd : ckDst N x.dst t = true)
    (hT : T (i + 1) = putD (T i) x.dst v) (hv : VR μ' v y) (h' : HR CR B R μ' w') (E : Ext (fence (rgs Hs i x) (xsOf X x) x.flag (Hs i)) μ w R μ' w') : Inv CR B N X os H₀ μ₀ w₀ ds₀ T Hs (fun k => S k ∨ k = i) (a.put t y) μ' w' := by
  have hil : i < os.length := (List.getElem?_eq_some_iff.1 hx).1
  have ae := hL.aeTo hr (Nat.le_of_lt hil)
  have hti := ae.top h₀.top
  have hheap := I.heap st hL hr h₀ hfr hS hx hi hpre
  have hRb : (Hs (i + 1)).blk = R.blk := by rw [hR]; cases Hs i; cases R; rfl
  have hRn : (Hs (i + 1)).next = R.next := by rw [hR]; simp
  have hidR : ∀ b, (Hs i).next ≤ b → ¬ R.hidden b := fun b hb hh => by
    rcases hh with g | g
    · have := hheap.hid.1; rw [E.perm.2.2.1] at g; simp at this; omega
    · have := hheap.hid.2 b (by rw [← E.perm.2.2.2]; exact g); simp at this; omega
  -- who may be written by the operation is seen by it
  have canSee : ∀ b e, μ b = some e → (fence (rgs Hs i x) (xsOf X x) x.flag (Hs i)).canW b → ∃ z, z.ro = false ∧ GS X os H₀ Hs S b = some z ∧ ¬ H₀.hidden b ∧ touch X os H₀ Hs b i ∧ (Hs i).canW b := fun b e hb hw => by
    obtain ⟨⟨z, hz, hro⟩, hm⟩ := hw
    obtain ⟨g1, g2⟩ := seen_at st hx hi hpre hL hr h₀.top hS hz (I.laid hL hr h₀ hfr hb)
    have hbi : b < (Hs i).next := by
      apply Classical.byContradiction; intro hn
      have := hti b (by omega); rw [view_blk g2] at this; cases this
    refine ⟨z, hro, g1, ?_, .inr ⟨hbi, x, hx, hm⟩, ⟨z, g2, hro⟩, (fence_may hm hbi).2⟩
    have := (view_iff.1 g2).1
    unfold AH.hidden at this ⊢
    rw [ae.perm.2.2.1, ae.perm.2.2.2] at this; exact this
  -- touched blocks, as the operation leaves them
  have touched : ∀ b z, touch X os H₀ Hs b i → GS X os H₀ Hs (fun k => S k ∨ k = i) b = some z → ¬ H₀.hidden b → R.view b = some z := fun b z ht hz hh => by
    rw [touched_at st hx hi hpre hL hr hS ht, hRb] at hz
    refine view_iff.2 ⟨?_, hz⟩
    rcases ht with ⟨t1, t2⟩ | ⟨t1, x', hx', hm⟩
    · exact hidR b t1
    · rw [hx] at hx'; cases hx'
      have hf : (fence (rgs Hs i x) (xsOf X x) x.flag (Hs i)).hidAt = (Hs i).hidAt ∧ (fence (rgs Hs i x) (xsOf X x) x.flag (Hs i)).hid = (Hs i).hid := by
        rcases (fence_may hm t1).1 with g | ⟨g, _⟩
        · unfold fence; rw [g]; exact ⟨rfl, rfl⟩
        · unfold fence; rw [g]; cases Hs i; exact ⟨rfl, rfl⟩
      unfold AH.hidden at hh ⊢
      rw [E.perm.2.2.1, E.perm.2.2.2, hf.1, hf.2, ae.perm.2.2.1, ae.perm.2.2.2]; exact hh
  have untouched : ∀ b z, ¬ touch X os H₀ Hs b i → GS X os H₀ Hs (fun k => S k ∨ k = i) b = some z → GS X os H₀ Hs S b = some z := fun b z ht hz => by
    rw [← other_at ht]; exact hz
  have oldMu : ∀ b e, μ' b = some e → ¬ touch X os H₀ Hs b i → μ b = some e := fun b e hb ht => by
    rcases E.new b e hb with g | ⟨_, g1, g2⟩
    · exact g
    · exact absurd (.inl ⟨by simpa using g1, by rw [hRn]; exact g2⟩) ht
  -- apart: a touched block and another
  have apart : ∀ b b' e e' z z', touch X os H₀ Hs b i → ¬ touch X os H₀ Hs b' i → μ' b = some e → μ' b' = some e' → ¬ H₀.hidden b → ¬ H₀.hidden b' → GS X os H₀ Hs (fun k => S k ∨ k = i) b = some z → GS X os H₀ Hs (fun k => S k ∨ k = i) b' = some z' →
      (z.ro = false ∨ z'.ro = false) → e.c ≠ e'.c := fun b b' e e' z z' t1 t2 m1 m2 g1 g2 z1 z2 hro => by
    have m2' := oldMu b' e' m2 t2
    have z2' := untouched b' z' t2 z2
    have hlt := I.ins b' e' m2'
    have viaW : ∀ b₀ e₀, μ b₀ = some e₀ → (fence (rgs Hs i x) (xsOf X x) x.flag (Hs i)).canW b₀ → e₀.c ≠ e'.c := fun b₀ e₀ hb₀ hw => by
      obtain ⟨y, y1, y2, y3, y4, _⟩ := canSee b₀ e₀ hb₀ hw
      exact I.sep b₀ b' e₀ e' y z' (by rintro rfl; exact t2 y4) hb₀ m2' y3 g2 y2 z2' y1
    cases hm : μ b with
    | none =>
      rcases E.img b e m1 hm with g | ⟨b₀, e₀, k1, k2, k3⟩
      · omega
      · rw [← k2]; exact viaW b₀ e₀ k1 k3
    | some e₁ =>
      have : e₁ = e := by have := E.le b e₁ hm; rw [m1] at this; cases this; rfl
      subst this
      rcases t1 with ⟨s1, s2⟩ | ⟨s1, x', hx', hmay⟩
      · exact absurd (I.laid hL hr h₀ hfr hm i hil s1 s2) hi
      · have hRv := touched b z (.inr ⟨s1, x', hx', hmay⟩) z1 g1
        obtain ⟨⟨y, y1, y2⟩, _⟩ := E.oldv b z (by simpa using s1) hRv
        obtain ⟨k1, k2⟩ := seen_at st hx hi hpre hL hr h₀.top hS y1 (I.laid hL hr h₀ hfr hm)
        rcases hro with hro | hro
        · exact I.sep b b' e₁ e' y z' (by rintro rfl; exact t2 (.inr ⟨s1, x', hx', hmay⟩)) hm m2' g1 g2 k1 z2' (y2 hro)
        · exact fun he => I.sep b' b e' e₁ z' y (by rintro rfl; exact t2 (.inr ⟨s1, x', hx', hmay⟩)) m2' hm g2 g1 z2' k1 hro he.symm
  have toH₀ : ∀ b e, μ₀ b = some e → (fence (rgs Hs i x) (xsOf X x) x.flag (Hs i)).canW b → H₀.canW b := fun b e hb hw => by
    obtain ⟨z, z1, z2, z3, z4, z5⟩ := canSee b e (I.le b e hb) hw
    -- the block was there, and could be changed, from the start
    have hlt : b < H₀.next := by
      apply Classical.byContradiction; intro hn
      have hbi : b < (Hs i).next := by
        apply Classical.byContradiction; intro hn'
        obtain ⟨⟨q, hq, _⟩, _⟩ := z5
        have := hti b (by omega); rw [view_blk hq] at this; cases this
      have := hfr b (by omega) (Nat.lt_of_lt_of_le hbi (hL.mono hr (i := i) (k := os.length) (Nat.le_of_lt hil) (Nat.le_refl _)))
      rw [hb] at this; cases this
    obtain ⟨⟨q, hq, hqr⟩, hmm⟩ := z5
    obtain ⟨y, y1, y2, _⟩ := ae.vis h₀.top b q hlt (view_blk hq)
    exact ⟨⟨y, view_iff.2 ⟨z3, y1⟩, y2 hqr⟩, by rw [← may_perm ae.perm]; exact hmm⟩
  refine ⟨?_, fun p => ?_, ?_, fun b e z hb hh hz => ?_, fun b b' e e' z z' hne h1 h2 g1 g2 z1 z2 hro => ?_, fun b e z hb hh hz hro => ?_, h'.ins, h'.base, fun b e hb => ?_, Mu.le_trans I.le E.le, Nat.le_trans I.size E.size, fun c hc hno => ?_, fun b e hb hn => ?_, E.os.1.trans I.os.1, E.os.2.trans I.os.2⟩
  · have := I.fsize; cases t <;> simpa [Act.put] using this
  · by_cases hp : dstIs os p i
    · obtain ⟨x', hx', hdp⟩ := hp
      rw [hx] at hx'; cases hx'
      have e1 : DS os T (fun k => S k ∨ k = i) p = (T (i + 1)).get p := by
        refine mix_last (f := fun k => (T k).get p) hil (.inr rfl) ⟨x, hx, hdp⟩ fun k h1 h2 hs ⟨y, hy, hyp⟩ => ?_
        exact st.ds i k x y p hx hy (by omega) hdp hyp
      rw [e1, hT, hdp]
      cases t with
      | none => rw [hdp] at hd; simp [ckDst] at hd
      | some d =>
        rw [hdp] at hd
        simp only [ckDst, Bool.and_eq_true] at hd
        have h1 : p.num = d := by simpa using hd.1
        subst h1
        have h2 : p.num < N := by have := Nat.le_of_ble_eq_true hd.2; omega
        show VR μ' (((T i).put p v).get p).ogetU ((a.tmps.setIfInBounds p.num y).getD p.num undef)
        rw [Fr.get_put, if_pos rfl, Array.getD_eq_getD_getElem?, Array.getElem?_setIfInBounds_self_of_lt (Nat.lt_of_lt_of_le h2 I.fsize)]
        exact hv
    · have e1 : DS os T (fun k => S k ∨ k = i) p = DS os T S p := mix_congr fun k _ ht => ⟨fun h => h.resolve_right fun e => hp (e ▸ ht), .inl⟩
      rw [e1]
      have e2 : (a.put t y).tmps.getD p.num undef = a.tmps.getD p.num undef := by
        cases t with
        | none => rfl
        | some d =>
          cases hxd : x.dst with
          | none => rw [hxd] at hd; simp [ckDst] at hd
          | some q =>
            rw [hxd] at hd
            simp only [ckDst, Bool.and_eq_true] at hd
            have h1 : q.num = d := by simpa using hd.1
            have hne : d ≠ p.num := fun e => hp ⟨x, hx, by rw [hxd, Pth.num_inj (h1.trans e)]⟩
            show (a.tmps.setIfInBounds d y).getD p.num undef = _
            rw [Array.getD_eq_getD_getElem?, Array.getElem?_setIfInBounds_ne hne, Array.getD_eq_getD_getElem?]
      rw [e2]
      exact (I.fr p).mono E.le
  · rw [← I.defs]; cases t <;> rfl
  · by_cases ht : touch X os H₀ Hs b i
    · exact h'.blk b e z hb (touched b z ht hz hh)
    · have m := oldMu b e hb ht
      have z' := untouched b z ht hz
      refine ((I.blk b e z m hh z').mono E.le).heap (E.keep e.c (I.ins b e m) fun b' e' hb' he hw => ?_)
      obtain ⟨y, y1, y2, y3, y4, _⟩ := canSee b' e' hb' hw
      exact I.sep b' b e' e y z (by rintro rfl; exact ht y4) hb' m y3 hh y2 z' y1 he
  · by_cases t1 : touch X os H₀ Hs b i
    · by_cases t2 : touch X os H₀ Hs b' i
      · exact h'.sep b b' e e' z z' hne h1 h2 (touched b z t1 z1 g1) (touched b' z' t2 z2 g2) hro
      · exact apart b b' e e' z z' t1 t2 h1 h2 g1 g2 z1 z2 (.inl hro)
    · by_cases t2 : touch X os H₀ Hs b' i
      · exact fun he => apart b' b e' e z' z t2 t1 h2 h1 g2 g1 z2 z1 (.inr hro) he.symm
      · exact I.sep b b' e e' z z' hne (oldMu b e h1 t1) (oldMu b' e' h2 t2) g1 g2 (untouched b z t1 z1) (untouched b' z' t2 z2) hro
  · by_cases ht : touch X os H₀ Hs b i
    · exact h'.low b e z hb (touched b z ht hz hh) hro
    · exact I.low b e z (oldMu b e hb ht) hh (untouched b z ht hz) hro
  · rcases E.new b e hb with g | ⟨g, g1, g2⟩
    · rcases I.dom b e g with k | ⟨k0, k, k1, k2, k3⟩
      · exact .inl k
      · exact .inr ⟨k0, k, .inl k1, k2, k3⟩
    · refine .inr ⟨?_, i, .inr rfl, hil, by simpa using g1, by rw [hRn]; exact g2⟩
      cases hm : μ₀ b with
      | none => rfl
      | some e' => rw [I.le b e' hm] at g; cases g
  · rw [← I.keep c hc hno]
    refine E.keep c (Nat.lt_of_lt_of_le hc I.size) fun b e hb he hw => ?_
    cases hm : μ₀ b with
    | some e' =>
      have : e' = e := by have := I.le b e' hm; rw [hb] at this; cases this; rfl
      subst this
      exact hno b e' hm he (toH₀ b e' hm hw)
    | none =>
      rcases I.img b e hb hm with g | ⟨b₀, e₀, g1, g2, g3⟩
      · omega
      · exact hno b₀ e₀ g1 (g2.trans he) g3
  · cases hm : μ b with
    | some e' =>
      have : e' = e := by have := E.le b e' hm; rw [hb] at this; cases this; rfl
      subst this
      exact I.img b e' hm hn
    | none =>
      rcases E.img b e hb hm with g | ⟨b₀, e₀, g1, g2, g3⟩
      · exact .inl (Nat.le_trans I.size g)
      · cases hm₀ : μ₀ b₀ with
        | some e' =>
          have : e' = e₀ := by have := I.le b₀ e' hm₀; rw [g1] at this; cases this; rfl
          subst this
          exact .inr ⟨b₀, e', hm₀, g2, toH₀ b₀ e' hm₀ g3⟩
        | none =>
          rcases I.img b₀ e₀ g1 hm₀ with k | ⟨b₁, e₁, k1, k2, k3⟩
          · exact .inl (by rw [← g2]; exact k)
          · exact .inr ⟨b₁, e₁, k1, k2.trans g2, k3⟩
end

/-- All have been made. -/
theorem Inv.done {rec : Task → Option Res} {tt : TT} {ops : Array Oper} (_ : Static tt N os ops) (hL : Line rec X os H₀ T Hs) (hr : RecAE rec) (h₀ : HR CR B H₀ μ₀ w₀) (_ : Fresh μ₀ H₀ (Hs os.length)) {S : Nat → Prop} (hS : ∀ k, k < os.length → S k)
    {a : Act} {μ : Mu} {w : World} (I : Inv CR B N X os H₀ μ₀ w₀ ds₀ T Hs S a μ w) :
    FR N μ (T os.length) a.tmps ∧ HR CR B (Hs os.length) μ w ∧ Ext H₀ μ₀ w₀ (Hs os.length) μ w := by
  have ae := hL.aeTo hr (Nat.le_refl os.length)
  have hG : ∀ b, GS X os H₀ Hs S b = (Hs os.length).blk.get b := fun b => mix_all (f := fun k => (Hs k).blk.get b) (fun k hk _ => hS k hk) fun k hk hn => hL.untouched hr h₀.top hk hn
  have hD : ∀ p, DS os T S p = (T os.length).get p := fun p => mix_all (f := fun k => (T k).get p) (fun k hk _ => hS k hk) fun k hk hn => hL.slot hk hn
  have hh : ∀ b, (Hs os.length).hidden b ↔ H₀.hidden b := fun b => by unfold AH.hidden; rw [ae.perm.2.2.1, ae.perm.2.2.2]
  have vw : ∀ {b z}, (Hs os.length).view b = some z → ¬ H₀.hidden b ∧ GS X os H₀ Hs S b = some z := fun {b z} hv => by
    obtain ⟨v1, v2⟩ := view_iff.1 hv
    exact ⟨fun h => v1 ((hh b).2 h), by rw [hG]; exact v2⟩
  refine ⟨⟨I.fsize, fun p => by rw [← hD]; exact I.fr p⟩, ⟨fun b e z hb hv => I.blk b e z hb (vw hv).1 (vw hv).2, fun b b' e e' z z' hne h1 h2 v1 v2 hro => I.sep b b' e e' z z' hne h1 h2 (vw v1).1 (vw v2).1 (vw v1).2 (vw v2).2 hro,
    fun b e z hb hv hro => I.low b e z hb (vw hv).1 (vw hv).2 hro, I.ins, ae.top h₀.top, by rw [ae.perm.1]; exact Nat.le_trans h₀.lim ae.next, ?_, ?_, I.base, fun b z hv hg => ?_⟩, ?_⟩
  · rw [ae.perm.2.2.1, ae.perm.2.2.2]; exact ⟨Nat.le_trans h₀.hid.1 ae.next, fun b hb => Nat.lt_of_lt_of_le (h₀.hid.2 b hb) ae.next⟩
  · rw [ae.perm.2.1]; exact fun b hb => Nat.lt_of_lt_of_le (h₀.exc b hb) ae.next
  · obtain ⟨v2, v3⟩ := view_iff.1 hv
    have hlt : b < H₀.next := by
      apply Classical.byContradiction; intro hn
      have := ae.newg h₀.top b z (by omega) v3
      rw [hg] at this; cases this
    obtain ⟨y, y1, _, _, y4⟩ := ae.vis h₀.top b z hlt v3
    obtain ⟨e, e1, e2⟩ := h₀.gl b y (view_iff.2 ⟨fun h => v2 ((hh b).2 h), y1⟩) (y4 hg)
    exact ⟨e, I.le b e e1, e2⟩
  · refine ⟨I.le, fun b e hb => ?_, I.size, I.keep, I.img, ae.next, fun b hb hw => ?_, fun b z hb hv => ?_, I.os, ae.perm⟩
    · rcases I.dom b e hb with g | ⟨g, k, k1, k2, k3, k4⟩
      · exact .inl g
      · refine .inr ⟨g, Nat.le_trans (hL.aeTo hr (Nat.le_of_lt k2)).next k3, Nat.lt_of_lt_of_le k4 (hL.mono hr k2 (Nat.le_refl _))⟩
    · obtain ⟨⟨q, hq, hqr⟩, hm⟩ := hw
      obtain ⟨v1, v2⟩ := view_iff.1 hq
      obtain ⟨y, y1, y2, _⟩ := ae.vis h₀.top b q hb v2
      exact ⟨⟨y, view_iff.2 ⟨fun h => v1 ((hh b).2 h), y1⟩, y2 hqr⟩, by rw [← may_perm ae.perm]; exact hm⟩
    · obtain ⟨v1, v2⟩ := view_iff.1 hv
      have v1' : ¬ H₀.hidden b := fun h => v1 ((hh b).2 h)
      obtain ⟨y, y1, y2, y3, _⟩ := ae.vis h₀.top b z hb v2
      refine ⟨⟨y, view_iff.2 ⟨v1', y1⟩, y2⟩, fun hno => ?_⟩
      cases hm : H₀.may b with
      | false =>
        have := ae.keep h₀.top b hb (.inl hm)
        rw [v2, y1] at this; cases this
        exact view_iff.2 ⟨v1', y1⟩
      | true =>
        have hyr : y.ro = true := by
          cases hro : y.ro with
          | true => rfl
          | false => exact absurd ⟨⟨y, view_iff.2 ⟨v1', y1⟩, hro⟩, hm⟩ hno
        rw [y3 hyr]; exact view_iff.2 ⟨v1', y1⟩
end
end Go.Ai
