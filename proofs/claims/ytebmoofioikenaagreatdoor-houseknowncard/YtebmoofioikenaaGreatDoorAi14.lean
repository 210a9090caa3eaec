/- What a step may change of a heap, told without a memory. -/
import Derived.Test.YtebmoofioikenaaGreatDoorAi13
namespace Go.Ai
open Go

def AH.topOk (H : AH) : Prop := ∀ b, H.next ≤ b → H.blk.get b = none

/-- Is a block hidden, whatever it holds? -/
def AH.hidden (H : AH) (b : Nat) : Prop := b < H.hidAt ∨ b ∈ H.hid

theorem view_iff {H : AH} {b : Nat} {x : ABlk} : H.view b = some x ↔ ¬ H.hidden b ∧ H.blk.get b = some x := by
  rw [AH.view_eq]
  by_cases h : b < H.hidAt ∨ b ∈ H.hid
  · rw [if_pos h]; exact ⟨fun g => (by cases g), fun g => absurd h g.1⟩
  · rw [if_neg h]; exact ⟨fun g => ⟨h, g⟩, fun g => g.2⟩

structure AE (H H' : AH) : Prop where
  next : H.next ≤ H'.next
  perm : H'.lim = H.lim ∧ H'.exc = H.exc ∧ H'.hidAt = H.hidAt ∧ H'.hid = H.hid
  keep : H.topOk → ∀ b, b < H.next → (H.may b = false ∨ H.hidden b) → H'.blk.get b = H.blk.get b
  top : H.topOk → H'.topOk
  vis : H.topOk → ∀ b x, b < H.next → H'.blk.get b = some x → ∃ y, H.blk.get b = some y ∧ (x.ro = false → y.ro = false) ∧ (y.ro = true → x = y) ∧ (x.glb = true → y.glb = true)
  newg : H.topOk → ∀ b x, H.next ≤ b → H'.blk.get b = some x → x.glb = false

theorem AE.refl (H : AH) : AE H H := ⟨Nat.le_refl _, ⟨rfl, rfl, rfl, rfl⟩, fun _ _ _ _ => rfl, id, fun _ _ x _ h => ⟨x, h, id, fun _ => rfl, id⟩, fun ht b _ hb hx => (by rw [ht b hb] at hx; cases hx)⟩
theorem may_perm {H H' : AH} (h : H'.lim = H.lim ∧ H'.exc = H.exc ∧ H'.hidAt = H.hidAt ∧ H'.hid = H.hid) (b : Nat) : H'.may b = H.may b := by unfold AH.may; rw [h.1, h.2.1]
theorem AE.trans {H H₁ H₂ : AH} (h : AE H H₁) (h' : AE H₁ H₂) : AE H H₂ :=
  ⟨Nat.le_trans h.next h'.next, ⟨h'.perm.1.trans h.perm.1, h'.perm.2.1.trans h.perm.2.1, h'.perm.2.2.1.trans h.perm.2.2.1, h'.perm.2.2.2.trans h.perm.2.2.2⟩,
   fun ht b hb hm => (h'.keep (h.top ht) b (Nat.lt_of_lt_of_le hb h.next) (hm.imp (fun hm => by rw [may_perm h.perm]; exact hm) fun hm => by unfold AH.hidden at hm ⊢; rw [h.perm.2.2.1, h.perm.2.2.2]; exact hm)).trans (h.keep ht b hb hm), fun ht => h'.top (h.top ht), fun ht b x hb hx => by
     obtain ⟨y, h1, h2, h3, h4⟩ := h'.vis (h.top ht) b x (Nat.lt_of_lt_of_le hb h.next) hx
     obtain ⟨z, g1, g2, g3, g4⟩ := h.vis ht b y hb h1
     exact ⟨z, g1, fun k => g2 (h2 k), fun k => (by have := g3 k; subst this; exact h3 k), fun k => g4 (h4 k)⟩,
   fun ht b x hb hx => by
     by_cases hb1 : b < H₁.next
     · obtain ⟨y, h1, _, _, h4⟩ := h'.vis (h.top ht) b x hb1 hx
       have := h.newg ht b y hb h1
       cases hg : x.glb with
       | false => rfl
       | true => rw [h4 hg] at this; cases this
     · exact h'.newg (h.top ht) b x (by omega) hx⟩

theorem AE.alloc (H : AH) (x : ABlk) (hg : x.glb = false := by rfl) : AE H (H.alloc x) := by
  rw [AH.alloc_eq]
  refine ⟨by simp, ⟨rfl, rfl, rfl, rfl⟩, fun _ b hb _ => ?_, fun ht b hb => ?_, fun _ b z hb hz => ⟨z, ?_, id, fun _ => rfl, id⟩, fun ht b z hb hz => ?_⟩
  · simp only [Tr.get_put]; rw [if_neg (by omega)]
  · simp only at hb ⊢; rw [Tr.get_put, if_neg (by omega)]; exact ht b (by omega)
  · simp only [Tr.get_put] at hz; rw [if_neg (by omega)] at hz; exact hz
  · simp only [Tr.get_put] at hz
    split at hz
    · cases hz; exact hg
    · rw [ht b hb] at hz; cases hz
theorem view_blk {H : AH} {b : Nat} {x : ABlk} (h : H.view b = some x) : H.blk.get b = some x := by
  rw [AH.view_eq] at h; split at h
  · cases h
  · exact h
theorem AE.setB {H : AH} {b : Nat} {y : ABlk} (x : ABlk) (hv : H.view b = some y) (hm : H.may b = true) (hro : y.ro = false) (hg : x.glb = false := by rfl) : AE H (H.setB b x) := by
  rw [AH.setB_eq]
  refine ⟨by simp, ⟨rfl, rfl, rfl, rfl⟩, fun _ c hc hcm => ?_, fun ht c hc => ?_, fun _ c z hc hz => ?_, fun ht c z hc hz => ?_⟩
  · simp only [Tr.get_put]; rw [if_neg (by
      rintro rfl
      rcases hcm with hcm | hcm
      · rw [hm] at hcm; cases hcm
      · exact (view_iff.1 hv).1 hcm)]
  · simp only at hc ⊢; rw [Tr.get_put, if_neg (by rintro rfl; have := view_blk hv; rw [ht c hc] at this; cases this)]; exact ht c hc
  · simp only [Tr.get_put] at hz
    by_cases e : c = b
    · subst e; rw [if_pos rfl] at hz; cases hz; exact ⟨y, view_blk hv, fun _ => hro, fun h => (by rw [hro] at h; cases h), fun h => (by rw [hg] at h; cases h)⟩
    · rw [if_neg e] at hz; exact ⟨z, hz, id, fun _ => rfl, id⟩
  · simp only [Tr.get_put] at hz
    split at hz
    · cases hz; exact hg
    · rw [ht c hc] at hz; cases hz
theorem AE.delB {H : AH} {b : Nat} {y : ABlk} (hv : H.view b = some y) (hm : H.may b = true) : AE H (H.delB b) := by
  rw [AH.delB_eq]
  refine ⟨by simp, ⟨rfl, rfl, rfl, rfl⟩, fun _ c hc hcm => ?_, fun ht c hc => ?_, fun _ c z hc hz => ?_, fun ht c z hc hz => ?_⟩
  · simp only [Tr.get_del]; rw [if_neg (by
      rintro rfl
      rcases hcm with hcm | hcm
      · rw [hm] at hcm; cases hcm
      · exact (view_iff.1 hv).1 hcm)]
  · simp only at hc ⊢; rw [Tr.get_del]; split
    · rfl
    · exact ht c hc
  · simp only [Tr.get_del] at hz
    split at hz
    · cases hz
    · exact ⟨z, hz, id, fun _ => rfl, id⟩
  · simp only [Tr.get_del] at hz
    split at hz
    · cases hz
    · rw [ht c hc] at hz; cases hz

theorem AE.st {H H' : AH} {b o : Nat} {ws : List AV} (h : H.st b o ws = some H') : AE H H' := by
  obtain ⟨vs, ty, hv, hm, _, _, rfl⟩ := st_some h
  exact AE.setB _ hv hm rfl
theorem AE.kill {H H' : AH} {b : Nat} (h : H.kill b = some H') : AE H H' := by
  unfold AH.kill at h
  obtain ⟨x, hv, hx⟩ := obind_eq_some.1 h
  obtain ⟨ro, vs, ty, rfl, hc⟩ := cellsK_some hx
  rw [ifb_none_eq_some', ifb_none_eq_some] at hc
  obtain ⟨_, hm, hc⟩ := hc
  cases hc
  exact AE.delB hv hm

/-- The heap that an outcome leaves. -/
def OutAE (H : AH) : Out → Prop
  | .val _ H' => AE H H'
  | .skip H' => AE H H'
  | .call _ _ => True

section
variable {H : AH} {out : Out} {τ : Fr AV}
theorem outAE_val {v : AV} (h : some (Out.val v H) = some out) : OutAE H out := by cases h; exact AE.refl H
theorem outAE_valK {v : Option AV} (h : valK H v = some out) : OutAE H out := by obtain ⟨v, _, rfl⟩ := valK_some h; exact AE.refl H
theorem outAE_obind {α : Type} {x : Option α} {f : α → Option Out} (h : x.obind f = some out) (hf : ∀ a, f a = some out → OutAE H out) : OutAE H out := by obtain ⟨a, _, h⟩ := obind_eq_some.1 h; exact hf a h
theorem outAE_ifb {c : Bool} {x y : Option Out} (h : ifb c x y = some out) (hx : x = some out → OutAE H out) (hy : y = some out → OutAE H out) : OutAE H out := by cases c; exact hy h; exact hx h
theorem outAE_none (h : (none : Option Out) = some out) : OutAE H out := by cases h
theorem outAE_ptrK {v : AV} {k : Nat → Nat → Option Out} (h : v.ptrK k = some out) (hk : ∀ a b, k a b = some out → OutAE H out) : OutAE H out := by
  cases v <;> simp [AV.ptrK] at h
  rename_i p; cases p with
  | none => simp [pairK] at h
  | some p => exact hk _ _ h
theorem outAE_intK {v : AV} {k : IntKind → Int → Option Out} (h : v.intK k = some out) (hk : ∀ a b, k a b = some out → OutAE H out) : OutAE H out := by
  cases v <;> simp [AV.intK] at h; exact hk _ _ h
theorem outAE_boolK {v : AV} {k : Bool → Option Out} (h : v.boolK k = some out) (hk : ∀ a, k a = some out → OutAE H out) : OutAE H out := by
  cases v <;> simp [AV.boolK] at h; exact hk _ h
theorem outAE_strK {v : AV} {k : List UInt8 → Option Out} (h : v.strK k = some out) (hk : ∀ a, k a = some out → OutAE H out) : OutAE H out := by
  cases v <;> simp [AV.strK] at h; exact hk _ h
theorem outAE_aggK {v : AV} {k : List AV → Option Out} (h : v.aggK k = some out) (hk : ∀ a, k a = some out → OutAE H out) : OutAE H out := by
  cases v <;> simp [AV.aggK] at h; exact hk _ h
theorem outAE_tupK {v : AV} {k : List AV → Option Out} (h : v.tupK k = some out) (hk : ∀ a, k a = some out → OutAE H out) : OutAE H out := by
  cases v <;> simp [AV.tupK] at h; exact hk _ h
theorem outAE_mapK {v : AV} {k : Option Nat → Option Out} (h : v.mapK k = some out) (hk : ∀ a, k a = some out → OutAE H out) : OutAE H out := by
  cases v <;> simp [AV.mapK] at h; exact hk _ h
theorem outAE_slK {v : AV} {k : Option (Nat × Nat) → Nat → Nat → Bool → Nat → Option Out} (h : v.slK k = some out) (hk : ∀ a b c d e, k a b c d e = some out → OutAE H out) : OutAE H out := by
  cases v <;> simp [AV.slK] at h; exact hk _ _ _ _ _ h
theorem outAE_newSl {H' : AH} {n z ty : Nat} {cs : List AV} (hH : AE H H') (h : newSl H' n z cs ty = some out) : OutAE H out := by cases h; exact hH.trans (AE.alloc _ _)

theorem appendAt_AE {b o len cap : Nat} {ex : Bool} {z by' ety n : Nat} {ws : List AV} (h : appendAt H b o len cap ex z by' ety n ws = some out) : OutAE H out := by
  unfold appendAt at h
  refine outAE_ifb h (fun h => ?_) fun h => outAE_ifb h (fun h => outAE_obind h fun old h => outAE_ifb h (fun h => outAE_newSl (AE.refl H) h) fun h => outAE_ifb h (fun h => ?_) outAE_none) outAE_none
  · obtain ⟨H', h1, h2⟩ := obind_eq_some.1 h
    cases h2; exact AE.st h1
  · obtain ⟨H', h1, h2⟩ := obind_eq_some.1 h
    exact outAE_newSl (AE.kill h1) h2

theorem opRun_AE {x : IOp} (h : opRun x τ H = some out) : OutAE H out := by
  cases x
  case move x => exact outAE_val h
  case pick c a b => exact outAE_boolK h fun _ h => outAE_val h
  case alloc z ty => cases h; exact AE.alloc _ _
  case box x =>
    have h : rBox x τ H = some out := h
    unfold rBox at h
    exact outAE_ifb h (fun h => by cases h; exact AE.alloc _ _) outAE_none
  case build z ps => exact outAE_obind (show (fillC τ z ps).obind _ = some out from h) fun _ h => outAE_val h
  case buildSlice z e l ps => exact outAE_obind (show (fillC τ (repN l z) ps).obind _ = some out from h) fun _ h => by cases h; exact AE.alloc _ _
  case load x => exact outAE_ptrK h fun _ _ h => outAE_valK h
  case loadAgg n x => exact outAE_ptrK h fun _ _ h => outAE_obind h fun _ h => outAE_val h
  case store n a v =>
    exact outAE_ptrK (show (a.ev τ).ptrK _ = some out from h) fun _ _ h => outAE_ifb h (fun h => by
      obtain ⟨H', h1, h2⟩ := obind_eq_some.1 h
      cases h2; exact AE.st h1) outAE_none
  case nilCheck x =>
    have h : rNilCheck x τ H = some out := h
    unfold rNilCheck at h
    split at h <;> first | exact outAE_val h | cases h
  case bin op x y => exact outAE_valK h
  case eqB neg x y => exact outAE_boolK h fun _ h => outAE_boolK h fun _ h => outAE_val h
  case eqAgg neg ks x y => exact outAE_obind (show (eqV true ks _ _).obind _ = some out from h) fun _ h => outAE_val h
  case eqNil k neg x y => exact outAE_obind (show (nilOf k _).obind _ = some out from h) fun _ h => outAE_obind h fun _ h => outAE_ifb h outAE_val outAE_none
  case un op x => exact outAE_valK h
  case convInt k x => exact outAE_intK h fun _ _ h => outAE_val h
  case convStr x => exact outAE_strK h fun _ h => outAE_val h
  case bytesToStr x =>
    refine outAE_slK (show (x.ev τ).slK _ = some out from h) fun a l _ _ z h => ?_
    cases a with
    | none => exact outAE_val h
    | some p => obtain ⟨b, o⟩ := p; exact outAE_ifb h (fun h => outAE_obind h fun _ h => outAE_obind h fun _ h => outAE_val h) outAE_none
  case strToBytes x => exact outAE_strK (show (x.ev τ).strK _ = some out from h) fun _ h => outAE_newSl (AE.refl H) h
  case mkIface t x => exact outAE_val h
  case mkFn f a b => exact outAE_val h
  case mkMap => cases h; exact AE.alloc _ _
  case mkSlice z e b l c => exact outAE_intK (show (l.ev τ).intK _ = some out from h) fun _ _ h => outAE_intK h fun _ _ h => outAE_ifb h (fun h => by cases h; exact AE.alloc _ _) outAE_none
  case sliceStr x lo hi => exact outAE_strK (show (x.ev τ).strK _ = some out from h) fun _ h => outAE_obind h fun _ h => outAE_obind h fun _ h => outAE_val h
  case sliceSl e x lo hi mx =>
    refine outAE_slK (show (x.ev τ).slK _ = some out from h) fun a l c ex z h => outAE_obind h fun _ h => outAE_obind h fun _ h => outAE_obind h fun _ h => ?_
    unfold rSliceSl2 at h
    cases a with
    | none => exact outAE_ifb h outAE_val outAE_none
    | some p => obtain ⟨b, o⟩ := p; exact outAE_ifb h outAE_val outAE_none
  case sliceArr n e x lo hi => exact outAE_ptrK (show (x.ev τ).ptrK _ = some out from h) fun _ _ h => outAE_obind h fun _ h => outAE_obind h fun _ h => outAE_obind h fun _ h => outAE_val h
  case fieldAddr f x => exact outAE_ptrK h fun _ _ h => outAE_val h
  case field f g x => exact outAE_aggK h fun _ h => outAE_valK h
  case idxAddrArr n e x i => exact outAE_ptrK (show (x.ev τ).ptrK _ = some out from h) fun _ _ h => outAE_intK h fun _ _ h => outAE_ifb h outAE_val outAE_none
  case idxAddrSl e x i => exact outAE_slK (show (x.ev τ).slK _ = some out from h) fun _ _ _ _ _ h => outAE_obind h fun _ h => outAE_intK h fun _ _ h => outAE_ifb h (fun h => outAE_ifb h outAE_val outAE_none) outAE_none
  case idxArr n e g x i => exact outAE_aggK (show (x.ev τ).aggK _ = some out from h) fun _ h => outAE_intK h fun _ _ h => outAE_ifb h outAE_valK outAE_none
  case idxStr x i => exact outAE_strK (show (x.ev τ).strK _ = some out from h) fun _ h => outAE_intK h fun _ _ h => outAE_ifb h (fun h => outAE_obind h fun _ h => outAE_val h) outAE_none
  case lookup g ks z k m i =>
    refine outAE_obind (show (eqV g ks _ _).obind _ = some out from h) fun _ h => outAE_mapK h fun r h => ?_
    cases r with
    | none => exact outAE_val h
    | some r =>
      refine outAE_obind (show (H.view r).obind _ = some out from h) fun x h => ?_
      obtain ⟨es, rfl, h⟩ := mapK_some h
      exact outAE_obind h fun _ h => outAE_val h
  case mapUpdate g ks m k v =>
    refine outAE_obind (show (eqV g ks _ _).obind _ = some out from h) fun _ h => outAE_mapK h fun r h => outAE_obind h fun r h => ?_
    obtain ⟨x, hv, h⟩ := obind_eq_some.1 h
    obtain ⟨es, ees, h'⟩ := mapK_some h
    subst ees
    rw [ifb_none_eq_some] at h'
    obtain ⟨hm, h'⟩ := h'
    obtain ⟨es', _, h'⟩ := obind_eq_some.1 h'
    cases h'
    exact AE.setB _ hv hm rfl
  case extract x i => exact outAE_tupK h fun _ h => outAE_valK h
  case call f args => cases h; trivial
  case len k x =>
    have h : rLen k x τ H = some out := h
    unfold rLen at h
    refine outAE_ifb h (fun h => outAE_strK h fun _ h => outAE_val h) fun h => outAE_ifb h (fun h => outAE_slK h fun _ _ _ _ _ h => outAE_val h) fun h => outAE_mapK h fun r h => ?_
    cases r with
    | none => exact outAE_val h
    | some r =>
      refine outAE_obind (show (H.view r).obind _ = some out from h) fun x h => ?_
      obtain ⟨es, rfl, h⟩ := mapK_some h
      exact outAE_val h
  case lenArr n => exact outAE_val h
  case append e b ty s x =>
    refine outAE_obind (show (srcCells H e _).obind _ = some out from h) fun p h => ?_
    unfold appendV at h
    refine outAE_slK h fun a l c ex z h => ?_
    cases a with
    | none => exact outAE_ifb h (fun h => outAE_ifb h outAE_val fun h => outAE_ifb h (fun h => outAE_newSl (AE.refl H) h) outAE_none) outAE_none
    | some q => obtain ⟨b, o⟩ := q; exact outAE_ifb h (fun h => outAE_ifb h outAE_val fun h => appendAt_AE h) outAE_none
  case copy e d s =>
    refine outAE_obind (show (srcCells H e _).obind _ = some out from h) fun p h => outAE_slK h fun a l c ex z h => ?_
    cases a with
    | none => exact outAE_ifb h outAE_val outAE_none
    | some q =>
      obtain ⟨b, o⟩ := q
      refine outAE_ifb h (fun h => outAE_ifb h outAE_val fun h => outAE_obind h fun ws h => ?_) outAE_none
      obtain ⟨H', h1, h2⟩ := obind_eq_some.1 h
      cases h2; exact AE.st h1
  case clearSl z x =>
    refine outAE_slK (show (x.ev τ).slK _ = some out from h) fun a l c ex z h => ?_
    cases a with
    | none => exact outAE_val h
    | some q =>
      obtain ⟨b, o⟩ := q
      refine outAE_ifb h outAE_val fun h => ?_
      obtain ⟨H', h1, h2⟩ := obind_eq_some.1 h
      cases h2; exact AE.st h1
  case stuck => cases h
  case loadG agg g => exact outAE_obind (show (H.view g).obind _ = some out from h) fun x h => outAE_ifb h (fun h => by
    cases agg with
    | none => exact outAE_valK (show valK H (H.ld1 g 0) = some out from h)
    | some n => exact outAE_obind (show (H.ld g 0 n).obind _ = some out from h) fun _ h => outAE_val h) outAE_none
  case rangeStr x =>
    refine outAE_strK (show (x.ev τ).strK _ = some out from h) fun _ h => ?_
    cases h; exact AE.alloc _ _
  case nextStr x =>
    refine outAE_ptrK (show (x.ev τ).ptrK _ = some out from h) fun b o h => outAE_ifb h (fun h => ?_) outAE_none
    obtain ⟨z, hv, h⟩ := obind_eq_some.1 h
    obtain ⟨s, pos, ez, h5⟩ := iterK_some h
    subst ez
    rw [ifb_none_eq_some] at h5
    obtain ⟨hm, h⟩ := h5
    unfold nextOut at h
    cases hn : nth s pos with
    | none => rw [hn] at h; cases h; exact AE.refl _
    | some c =>
      rw [hn] at h
      have h : ifb (Nat.ble 128 c.toNat) none (some (Out.val (.tup [.bool true, .int .i64 (.ofNat pos), .int .i32 (.ofNat c.toNat)]) (H.setB b (.iter s (Nat.add pos 1))))) = some out := h
      rw [ifb_none_eq_some'] at h
      obtain ⟨_, h⟩ := h
      cases h
      exact AE.setB _ hv hm rfl
  case idxAddrG g n e i => exact outAE_obind (show (H.view g).obind _ = some out from h) fun x h => outAE_ifb h (fun h => outAE_intK h fun _ _ h => outAE_ifb h outAE_val outAE_none) outAE_none
  case minmax m xs =>
    have h : rMinmax m xs τ H = some out := h
    unfold rMinmax at h
    split at h
    · exact outAE_valK h
    · cases h
end

/-! ### Regions, code, calls -/
theorem AE.fence {rg : List (Nat × Nat)} {xs : List Nat} {f : Nat} {H R : AH} (h : AE (fence rg xs f H) R) : AE H (unfence H R) := by
  have hn : (Ai.fence rg xs f H).blk = H.blk := by
    unfold Ai.fence; cases H; simp only [ifb_eq]; repeat' split
    all_goals rfl
  have hu : (unfence H R).blk = R.blk ∧ (unfence H R).lim = H.lim ∧ (unfence H R).exc = H.exc ∧ (unfence H R).hidAt = H.hidAt ∧ (unfence H R).hid = H.hid := by cases H; cases R; exact ⟨rfl, rfl, rfl, rfl, rfl⟩
  have ht : H.topOk → (Ai.fence rg xs f H).topOk := fun t b hb => by rw [hn]; exact t b (by simpa using hb)
  refine ⟨by have := h.next; simpa using this, hu.2, fun t b hb hm => ?_, fun t b hb => ?_, fun t b x hb hx => ?_, fun t b x hb hx => ?_⟩
  · rw [hu.1, h.keep (ht t) b (by simpa using hb) ?_, hn]
    rcases hm with hm | hm
    case inr =>
      refine .inr ?_
      unfold AH.hidden at hm ⊢
      unfold Ai.fence
      cases H with
      | mk next blk lim exc hidAt hid =>
        simp only [ifb_eq]
        repeat' split
        all_goals first
          | exact hm
          | exact .inl hb
          | exact hm.imp id (fun g => List.mem_append_right _ g)
    refine .inl ?_
    -- what the fence lets change, the heap lets change
    rw [← Bool.not_eq_true] at hm ⊢
    intro hm'
    apply hm
    unfold Ai.fence at hm'
    rw [AH.may_iff] at hm ⊢
    cases H with
    | mk next blk lim exc hidAt hid =>
      simp only [ifb_eq] at hm'
      split at hm'
      · exact AH.may_iff.1 hm'
      · split at hm'
        · rcases AH.may_iff.1 hm' with g | g
          · simp at hb g; omega
          · simp at g
        · split at hm'
          · rcases AH.may_iff.1 hm' with g | g
            · simp at hb g; omega
            · simp at g
          · split at hm'
            · rcases AH.may_iff.1 hm' with g | g
              · simp at hb g; omega
              · simp at g
                exact AH.may_iff.1 g.2.1
            · rcases AH.may_iff.1 hm' with g | g
              · simp at hb g; omega
              · simp at g
  · rw [hu.1]; exact h.top (ht t) b (by simpa using hb)
  · rw [hu.1] at hx
    have := h.vis (ht t) b x (by simpa using hb) hx
    rwa [hn] at this
  · rw [hu.1] at hx
    exact h.newg (ht t) b x (by simpa using hb) hx

structure RecAE (rec : Task → Option Res) : Prop where
  call : ∀ v args H r, rec (.call v args H) = some r → AE H r.H
  loop : ∀ c τ H r, rec (.loop c τ H) = some r → AE H r.H

section
variable {rec : Task → Option Res}
theorem evOp_AE (hr : RecAE rec) {o : IOper} {τ : Fr AV} {H : AH} {p : Fr AV × AH} (h : evOp rec o τ H = some p) : AE H p.2 := by
  unfold evOp at h
  obtain ⟨t, _, h⟩ := obind_eq_some.1 h
  cases t
  · cases h; exact AE.refl _
  · obtain ⟨out, ho, h⟩ := obind_eq_some.1 h
    have ha := opRun_AE ho
    cases out with
    | val v H' => obtain ⟨_, rfl⟩ := onward_some.1 h; exact ha
    | skip H' => obtain ⟨_, rfl⟩ := onward_some.1 h; exact ha
    | call f args =>
      obtain ⟨r, h1, h⟩ := obind_eq_some.1 h
      obtain ⟨_, rfl⟩ := onward_some.1 h; exact hr.call _ _ _ _ h1

theorem evOps_AE (hr : RecAE rec) {os : List IOper} {τ : Fr AV} {H : AH} {p : Fr AV × AH} (h : evOps rec os τ H = some p) : AE H p.2 := by
  induction os generalizing τ H with
  | nil => cases h; exact AE.refl _
  | cons o os ih =>
    rw [evOps_cons] at h
    obtain ⟨q, h1, h2⟩ := obind_eq_some.1 h
    exact (evOp_AE hr h1).trans (ih h2)

theorem evDraw_cons {X : Opd → List Nat} {o : IOper} {os : List IOper} {ns : List (Nat × Nat)} {τ : Fr AV} {H : AH} :
    evDraw rec X (o :: os) ns τ H = (evOp rec o τ (fence (rgAt ns o.hide) (o.xs.flatMap X) o.flag H)).obind fun p => evDraw rec X os ((H.next, p.2.next) :: ns) p.1 (unfence H p.2) := rfl

theorem evDraw_AE (hr : RecAE rec) {X : Opd → List Nat} {os : List IOper} {ns : List (Nat × Nat)} {τ : Fr AV} {H : AH} {p : Fr AV × AH} (h : evDraw rec X os ns τ H = some p) : AE H p.2 := by
  induction os generalizing ns τ H with
  | nil => cases h; exact AE.refl _
  | cons o os ih =>
    rw [evDraw_cons] at h
    obtain ⟨q, h1, h2⟩ := obind_eq_some.1 h
    exact (evOp_AE hr h1).fence.trans (ih h2)

theorem loopK_some {β : Type} {x : ABlk} {k : Nat → Option Ex → Fr AV → List Pth → ICode → ICode → Option β} {b : β} (h : x.loopK k = some b) : ∃ st pend τ ps asg body, x = .loop st pend τ ps asg body ∧ k st pend τ ps asg body = some b := by
  cases x <;> simp [ABlk.loopK] at h
  exact ⟨_, _, _, _, _, _, rfl, h⟩

/-- A change of a block that was laid meanwhile. -/
theorem AE.setNew {H₀ H : AH} (h : AE H₀ H) {b : Nat} {x y : ABlk} (hb : H₀.next ≤ b) (hv : H.view b = some y) (hg : x.glb = false := by rfl) : AE H₀ (H.setB b x) := by
  rw [AH.setB_eq]
  refine ⟨h.next, h.perm, fun t c hc hm => ?_, fun t c hc => ?_, fun t c z hc hz => ?_, fun t c z hc hz => ?_⟩
  · simp only [Tr.get_put]; rw [if_neg (by omega)]; exact h.keep t c hc hm
  · simp only at hc ⊢; rw [Tr.get_put, if_neg (by rintro rfl; have := view_blk hv; rw [h.top t c hc] at this; cases this)]; exact h.top t c hc
  · simp only [Tr.get_put] at hz; rw [if_neg (by omega)] at hz; exact h.vis t c z hc hz
  · simp only [Tr.get_put] at hz
    split at hz
    · cases hz; exact hg
    · exact h.newg t c z hc hz

theorem evCode_AE (hr : RecAE rec) : ∀ (c : ICode) {τ : Fr AV} {H : AH} {r : Res}, evCode rec c τ H = some r → AE H r.H
  | .skip, _, _, _, h => by cases h; exact AE.refl _
  | .region ops, τ, H, r, h => by
    have h : (evOps rec ops τ H).obind (fun p => some ({ ex := .normal, τ := p.1, H := p.2 } : Res)) = some r := h
    obtain ⟨p, h1, h2⟩ := obind_eq_some.1 h
    cases h2; exact evOps_AE hr h1
  | .draw ops two, τ, H, r, h => by
    have h : eDraw rec ops two τ H = some r := h
    unfold eDraw at h
    obtain ⟨τ₁, _, h⟩ := obind_eq_some.1 h
    obtain ⟨p, h1, h2⟩ := obind_eq_some.1 h
    cases h2; exact evDraw_AE hr h1
  | .seq a b, τ, H, r, h => by
    have h : (evCode rec a τ H).obind (fun r => eThen r (evCode rec b)) = some r := h
    obtain ⟨q, h1, h2⟩ := obind_eq_some.1 h
    have i1 := evCode_AE hr a h1
    unfold eThen Ex.el at h2
    cases hq : q.ex with
    | normal => rw [hq] at h2; exact i1.trans (evCode_AE hr b h2)
    | exit id => rw [hq] at h2; cases h2; exact i1
    | ret => rw [hq] at h2; cases h2; exact i1
  | .cond x a b, τ, H, r, h => by
    have h : (x.ev τ).boolK (fun t => ifb t (evCode rec a τ H) (evCode rec b τ H)) = some r := h
    generalize x.ev τ = v at h
    cases v <;> simp [AV.boolK] at h
    rename_i t
    cases t
    · exact evCode_AE hr b h
    · exact evCode_AE hr a h
  | .block id c, τ, H, r, h => by
    have h : (evCode rec c τ H).obind (eEnd id) = some r := h
    obtain ⟨q, h1, h2⟩ := obind_eq_some.1 h
    have i1 := evCode_AE hr c h1
    unfold eEnd Ex.el at h2
    cases hq : q.ex with
    | normal => rw [hq] at h2; cases h2; exact i1
    | ret => rw [hq] at h2; cases h2; exact i1
    | exit id' =>
      rw [hq] at h2
      have h2 : ifb (Nat.beq id' id) (some { q with ex := .normal }) (some q) = some r := h2
      rw [ifb_eq] at h2
      split at h2 <;> cases h2 <;> exact i1
  | .loop c, τ, H, r, h => by
    have h : (evCode rec c τ H).obind (fun r => eThen r fun τ H => rec (.loop c τ H)) = some r := h
    obtain ⟨q, h1, h2⟩ := obind_eq_some.1 h
    have i1 := evCode_AE hr c h1
    unfold eThen Ex.el at h2
    cases hq : q.ex with
    | normal => rw [hq] at h2; exact i1.trans (hr.loop _ _ _ _ h2)
    | exit id => rw [hq] at h2; cases h2; exact i1
    | ret => rw [hq] at h2; cases h2; exact i1
  | .rangeFunc f ps asg body, τ, H, r, h => by
    have h : eRange rec f ps asg body τ H = some r := h
    unfold eRange at h
    rw [ifb_none_eq_some] at h
    obtain ⟨_, h⟩ := h
    unfold eRange1 at h
    obtain ⟨q, hq, h⟩ := obind_eq_some.1 h
    rw [ifb_none_eq_some] at h
    obtain ⟨h1, h⟩ := h
    have i1 := (AE.alloc H (.loop 0 none τ ps asg body)).trans (hr.call _ _ _ _ hq)
    obtain ⟨x, hx, h⟩ := obind_eq_some.1 h
    unfold eRange2 at h
    obtain ⟨st, pend, τ', ps', asg', body', ex, h'⟩ := loopK_some h
    subst ex
    replace h := h'
    simp only [ifb_eq] at h
    split at h
    · cases pend <;> cases h; exact i1.setNew (Nat.le_refl _) hx
    · split at h
      · obtain ⟨e, _, h⟩ := obind_eq_some.1 h
        cases h; exact i1.setNew (Nat.le_refl _) hx
      · cases h
  | .exit id, _, _, _, h => by cases h; exact AE.refl _
  | .ret, _, _, _, h => by cases h; exact AE.refl _
  | .stuck, _, _, _, h => by cases h
  | .scope c, _, _, _, h => evCode_AE hr c h

theorem evCall_AE (hr : RecAE rec) {FT : Nat → Option IFunc} {v : AV} {args : List AV} {H : AH} {r : Res} (h : evCall rec FT v args H = some r) : AE H r.H := by
  unfold evCall at h
  cases v <;> simp [AV.el] at h
  · unfold evFn at h
    obtain ⟨fn, _, h⟩ := obind_eq_some.1 h
    obtain ⟨q, h1, h⟩ := obind_eq_some.1 h
    have i1 := evCode_AE hr _ h1
    unfold eBack Ex.el at h
    cases hq : q.ex with
    | exit id => rw [hq] at h; cases h
    | normal => rw [hq] at h; obtain ⟨vs, _, h⟩ := obind_eq_some.1 h; cases h; exact i1
    | ret => rw [hq] at h; obtain ⟨vs, _, h⟩ := obind_eq_some.1 h; cases h; exact i1
  · rename_i l
    unfold evYield at h
    obtain ⟨x, hx, h⟩ := obind_eq_some.1 h
    obtain ⟨st, pend, τ', ps', asg', body', ex, h'⟩ := loopK_some h
    subst ex
    replace h := h'
    rw [ifb_none_eq_some, ifb_none_eq_some] at h
    obtain ⟨_, hm, h⟩ := h
    obtain ⟨τ₁, _, h⟩ := obind_eq_some.1 h
    obtain ⟨q, h1, h⟩ := obind_eq_some.1 h
    have i1 := evCode_AE hr _ h1
    unfold eRound1 Ex.el at h
    cases hq : q.ex with
    | exit id => rw [hq] at h; cases h
    | ret => rw [hq] at h; cases h
    | normal =>
      rw [hq] at h
      obtain ⟨x, hx, h⟩ := obind_eq_some.1 h
      obtain ⟨st2, pend2, τ2, ps2, asg2, body2, ex, h'⟩ := loopK_some h
      subst ex
      replace h := h'
      rw [ifb_none_eq_some, ifb_none_eq_some] at h
      obtain ⟨_, hm2, h⟩ := h
      obtain ⟨q2, h2, h⟩ := obind_eq_some.1 h
      have i2 := (i1.trans (AE.setB (.loop 1 pend2 τ2 ps2 asg2 body2) hx hm2 rfl)).trans (evCode_AE hr _ h2)
      unfold eRound2 at h
      obtain ⟨x3, hx3, h⟩ := obind_eq_some.1 h
      obtain ⟨st3, pend3, τ3, ps3, asg3, body3, ex, h'⟩ := loopK_some h
      subst ex
      replace h := h'
      rw [ifb_none_eq_some] at h
      obtain ⟨_, h⟩ := h
      have hm3 : q2.H.may l = true := by rw [may_perm i2.perm]; exact hm
      unfold Ex.el at h
      cases hq2 : q2.ex <;> rw [hq2] at h <;> cases h <;> exact i2.trans (AE.setB _ hx3 hm3 rfl)

theorem orElse2_some {o d : Option Res} {r : Res} (h : orElse2 o d = some r) : o = some r ∨ (o = none ∧ d = some r) := by
  cases o with
  | none => exact .inr ⟨rfl, h⟩
  | some q => exact .inl h

theorem ev_AE {O : AV → List AV → AH → Option Res} (hO : ∀ v args H r, O v args H = some r → AE H r.H) (FT : Nat → Option IFunc) : ∀ n, RecAE (ev O FT n)
  | 0 => ⟨fun _ _ _ _ h => (by cases h), fun _ _ _ _ h => (by cases h)⟩
  | n + 1 => ⟨fun v args H r h => (orElse2_some (show orElse2 (O v args H) (evCall (ev O FT n) FT v args H) = some r from h)).elim (fun g => hO v args H r g) fun g => evCall_AE (ev_AE hO FT n) g.2,
      fun c τ H r h => evCode_AE (ev_AE hO FT n) (.loop c) (show eLoop (ev O FT n) c (evCode (ev O FT n) c) τ H = some r from h)⟩
end
end Go.Ai
