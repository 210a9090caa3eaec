/- Allocating, changing, giving up a block. -/
import Derived.Test.YtebmoofioikenaaGreatDoorAi3
namespace Go.Ai
open Go

theorem memN_iff {n : Nat} {l : List Nat} : memN n l = true ↔ n ∈ l := by
  induction l with
  | nil => simp [memN]
  | cons a l ih =>
    show ifb (Nat.beq a n) true (memN n l) = true ↔ _
    rw [ifb_eq]
    by_cases h : a = n
    · simp [h]
    · have : Nat.beq a n = false := by rw [← Bool.not_eq_true, Nat.beq_eq]; exact h
      rw [this]; simp [ih, Ne.symm h]

theorem AH.view_eq (H : AH) (b : Nat) : H.view b = if b < H.hidAt ∨ b ∈ H.hid then none else H.blk.get b := by
  unfold AH.view
  simp only [ifb_eq, memN_iff]
  have e : (Nat.ble b.succ H.hidAt = true) ↔ b < H.hidAt := ⟨fun h => Nat.le_of_ble_eq_true h, fun h => Nat.ble_eq_true_of_le h⟩
  by_cases h1 : b < H.hidAt
  · rw [if_pos (e.2 h1), if_pos (.inl h1)]
  · rw [if_neg (fun h => h1 (e.1 h))]
    by_cases h2 : b ∈ H.hid
    · rw [if_pos h2, if_pos (.inr h2)]
    · rw [if_neg h2, if_neg (by rintro (h | h); exact h1 h; exact h2 h)]

theorem AH.may_iff {H : AH} {b : Nat} : H.may b = true ↔ H.lim ≤ b ∨ b ∈ H.exc := by
  unfold AH.may; rw [ifb_eq]
  by_cases h : H.lim ≤ b
  · simp [Nat.ble_eq_true_of_le h, h]
  · have : Nat.ble H.lim b = false := by rw [← Bool.not_eq_true]; exact fun x => h (Nat.le_of_ble_eq_true x)
    simp [this, h, memN_iff]

theorem AH.alloc_eq (H : AH) (x : ABlk) : H.alloc x = ⟨H.next + 1, H.blk.put H.next x, H.lim, H.exc, H.hidAt, H.hid⟩ :=
  match H with
  | ⟨n, bl, l, e, ha, h⟩ => Tr.force_eq (bl.put n x) (fun bl => (⟨n + 1, bl, l, e, ha, h⟩ : AH))
theorem AH.setB_eq (H : AH) (b : Nat) (x : ABlk) : H.setB b x = ⟨H.next, H.blk.put b x, H.lim, H.exc, H.hidAt, H.hid⟩ :=
  match H with
  | ⟨n, bl, l, e, ha, h⟩ => Tr.force_eq (bl.put b x) (fun bl => (⟨n, bl, l, e, ha, h⟩ : AH))
theorem AH.delB_eq (H : AH) (b : Nat) : H.delB b = ⟨H.next, H.blk.del b, H.lim, H.exc, H.hidAt, H.hid⟩ :=
  match H with
  | ⟨n, bl, l, e, ha, h⟩ => Tr.force_eq (bl.del b) (fun bl => (⟨n, bl, l, e, ha, h⟩ : AH))

section
variable {CR : CRel} {B : Nat} {H : AH} {μ : Mu} {w w' : World}

theorem HR.view_new (h : HR CR B H μ w) (x : ABlk) : (H.alloc x).view H.next = some x := by
  rw [AH.view_eq, AH.alloc_eq, if_neg]
  · simp [Tr.get_put]
  · rintro (g | g)
    · have := h.hid.1; simp at g; omega
    · have := h.hid.2 _ g; omega
theorem AH.view_alloc_ne (H : AH) (x : ABlk) {b : Nat} (hb : b ≠ H.next) : (H.alloc x).view b = H.view b := by
  rw [AH.view_eq, AH.view_eq, AH.alloc_eq]; simp [Tr.get_put, hb]
theorem HR.view_top (h : HR CR B H μ w) {b : Nat} (hb : H.next ≤ b) : H.view b = none := by
  rw [AH.view_eq, h.top b hb]; split <;> rfl
theorem HR.lt_of_view (h : HR CR B H μ w) {b : Nat} {x : ABlk} (hb : H.view b = some x) : b < H.next := by
  apply Classical.byContradiction; intro hn; rw [h.view_top (by omega)] at hb; cases hb
theorem AH.view_setB (H : AH) {b : Nat} (x : ABlk) {y : ABlk} (hv : H.view b = some y) (b' : Nat) : (H.setB b x).view b' = if b' = b then some x else H.view b' := by
  rw [AH.view_eq] at hv
  split at hv
  · cases hv
  · rename_i hh
    rw [AH.view_eq, AH.view_eq, AH.setB_eq]; simp only [Tr.get_put]
    by_cases e : b' = b
    · subst e; rw [if_neg hh]; simp
    · simp [e]
theorem AH.view_delB (H : AH) (b b' : Nat) : (H.delB b).view b' = if b' = b then none else H.view b' := by
  rw [AH.view_eq, AH.view_eq, AH.delB_eq]; simp only [Tr.get_del]
  by_cases e : b' = b
  · subst e; simp
  · simp [e]
theorem AH.may_alloc (H : AH) (x : ABlk) (b : Nat) : (H.alloc x).may b = H.may b := by rw [AH.alloc_eq]; rfl
theorem AH.may_setB (H : AH) (c : Nat) (x : ABlk) (b : Nat) : (H.setB c x).may b = H.may b := by rw [AH.setB_eq]; rfl
theorem AH.may_delB (H : AH) (c : Nat) (b : Nat) : (H.delB c).may b = H.may b := by rw [AH.delB_eq]; rfl
@[simp] theorem AH.next_alloc (H : AH) (x : ABlk) : (H.alloc x).next = H.next + 1 := by rw [AH.alloc_eq]
@[simp] theorem AH.next_setB (H : AH) (b : Nat) (x : ABlk) : (H.setB b x).next = H.next := by rw [AH.setB_eq]
@[simp] theorem AH.next_delB (H : AH) (b : Nat) : (H.delB b).next = H.next := by rw [AH.delB_eq]

def Mu.add (μ : Mu) (n : Nat) (e : Img) : Mu := fun b => if b = n then some e else μ b
theorem Mu.le_add (μ : Mu) (n : Nat) (e : Img) (h : μ n = none) : μ.le (μ.add n e) := fun b x hb => by
  unfold Mu.add; split
  · subst_vars; rw [h] at hb; cases hb
  · exact hb
theorem Mu.add_same (μ : Mu) (n : Nat) (e : Img) : μ.add n e n = some e := by simp [Mu.add]

/-- A new block. -/
theorem alloc_sound (h : HR CR B H μ w) (hf : μ H.next = none) (o : Obj) (x : ABlk) (n : Nat) (hw : w'.heap = w.heap.push o)
    (hb : BR CR (μ.add H.next ⟨w.heap.size, 0, n⟩) x ⟨w.heap.size, 0, n⟩ w') (hg : x.glb = false) (ho : w'.os = w.os ∧ w'.output = w.output := by exact ⟨rfl, rfl⟩) :
    HR CR B (H.alloc x) (μ.add H.next ⟨w.heap.size, 0, n⟩) w' ∧ Ext H μ w (H.alloc x) (μ.add H.next ⟨w.heap.size, 0, n⟩) w' := by
  have hle := μ.le_add H.next ⟨w.heap.size, 0, n⟩ hf
  have hsz : w'.heap.size = w.heap.size + 1 := by rw [hw]; simp
  have hget : ∀ c, c < w.heap.size → w'.heap[c]? = w.heap[c]? := fun c hc => by rw [hw, Array.getElem?_push_lt hc]; simp [hc]
  refine ⟨⟨fun b e y hb' hv => ?_, fun b b' e e' y y' hne h1 h2 v1 v2 hr => ?_, fun b e y h1 v1 hr => ?_, fun b e h1 => ?_, fun b hb' => ?_, ?_, ?_, ?_, ?_, fun b y hv hy => ?_⟩, ?_⟩
  · unfold Mu.add at hb'; split at hb'
    · rename_i hbn; subst hbn; cases hb'
      rw [h.view_new] at hv; cases hv; exact hb
    · rename_i hbn; rw [AH.view_alloc_ne _ _ hbn] at hv
      exact ((h.blk b e y hb' hv).mono hle).heap (hget _ (h.ins b e hb'))
  · unfold Mu.add at h1 h2
    split at h1
    · rename_i g; subst g; cases h1
      rw [if_neg (Ne.symm hne)] at h2
      have := h.ins _ _ h2; simp; omega
    · rename_i g; rw [AH.view_alloc_ne _ _ g] at v1
      split at h2
      · cases h2; have := h.ins _ _ h1; simp; omega
      · rename_i g'; rw [AH.view_alloc_ne _ _ g'] at v2; exact h.sep b b' e e' y y' hne h1 h2 v1 v2 hr
  · unfold Mu.add at h1; split at h1
    · cases h1; exact h.base
    · rename_i g; rw [AH.view_alloc_ne _ _ g] at v1; exact h.low b e y h1 v1 hr
  · unfold Mu.add at h1; split at h1
    · cases h1; simp [hsz]
    · have := h.ins b e h1; omega
  · rw [AH.alloc_eq] at hb' ⊢; simp only at hb' ⊢
    rw [Tr.get_put, if_neg (by omega)]; exact h.top b (by omega)
  · rw [AH.alloc_eq]; have := h.lim; simp; omega
  · rw [AH.alloc_eq]; exact ⟨by have := h.hid.1; simp; omega, fun b hb' => by have := h.hid.2 b hb'; simp; omega⟩
  · rw [AH.alloc_eq]; intro b hb'; have := h.exc b hb'; simp; omega
  · have := h.base; omega
  · by_cases hbn : b = H.next
    · subst hbn; rw [h.view_new] at hv; cases hv; rw [hg] at hy; cases hy
    · rw [AH.view_alloc_ne _ _ hbn] at hv
      obtain ⟨e, g1, g2⟩ := h.gl b y hv hy
      exact ⟨e, hle b e g1, g2⟩
  · refine ⟨hle, fun b e h1 => ?_, by omega, fun c hc _ => hget c hc, fun b e h1 h2 => ?_, by simp, fun b hb' hw' => ?_, fun b y hb' hv => ?_, ho, ?_⟩
    · unfold Mu.add at h1; split at h1
      · rename_i g; subst g; exact .inr ⟨hf, Nat.le_refl _, by simp⟩
      · exact .inl h1
    · unfold Mu.add at h1; split at h1
      · cases h1; exact .inl (Nat.le_refl _)
      · rw [h2] at h1; cases h1
    · obtain ⟨⟨y, hy, hr⟩, hm⟩ := hw'
      rw [AH.view_alloc_ne _ _ (by omega)] at hy
      rw [AH.may_alloc] at hm
      exact ⟨⟨y, hy, hr⟩, hm⟩
    · rw [AH.view_alloc_ne _ _ (by omega)] at hv
      exact ⟨⟨y, hv, id⟩, fun _ => hv⟩
    · rw [AH.alloc_eq]; exact ⟨rfl, rfl, rfl, rfl⟩

/-- A block is changed. -/
theorem upd_sound (h : HR CR B H μ w) {b : Nat} {e : Img} (hm : μ b = some e) {x x' : ABlk} (hv : H.view b = some x) (hr : x.ro = false) (hmay : H.may b = true) (hg : x'.glb = false)
    (hsz : w'.heap.size = w.heap.size) (hget : ∀ c, c ≠ e.c → w'.heap[c]? = w.heap[c]?) (hb : BR CR μ x' e w') (ho : w'.os = w.os ∧ w'.output = w.output := by exact ⟨rfl, rfl⟩) :
    HR CR B (H.setB b x') μ w' ∧ Ext H μ w (H.setB b x') μ w' := by
  have hlt := h.lt_of_view hv
  have hcan : H.canW b := ⟨⟨x, hv, hr⟩, hmay⟩
  have hview := AH.view_setB H x' hv
  refine ⟨⟨fun c f y hc hy => ?_, fun c c' f f' y y' hne h1 h2 v1 v2 hro => ?_, fun c f y h1 v1 hro => ?_, fun c f h1 => ?_, fun c hc => ?_, ?_, ?_, ?_, ?_, fun c y hy hyg => ?_⟩, ?_⟩
  · rw [hview] at hy; split at hy
    · rename_i g; subst g; cases hy; rw [hm] at hc; cases hc; exact hb
    · rename_i g
      exact (h.blk c f y hc hy).heap (hget _ fun he => (h.sep b c e f x y (Ne.symm g) hm hc hv hy hr) he.symm)
  · rw [hview] at v1 v2
    split at v1
    · rename_i g; subst g; cases v1; rw [if_neg (Ne.symm hne)] at v2; rw [hm] at h1; cases h1
      exact h.sep c c' e f' x y' hne hm h2 hv v2 hr
    · split at v2
      · rename_i g; subst g; cases v2; rw [hm] at h2; cases h2
        exact h.sep c c' f e y x hne h1 hm v1 hv hro
      · exact h.sep c c' f f' y y' hne h1 h2 v1 v2 hro
  · rw [hview] at v1; split at v1
    · rename_i g; subst g; exact h.low c f x h1 hv hr
    · exact h.low c f y h1 v1 hro
  · rw [hsz]; exact h.ins c f h1
  · rw [AH.setB_eq] at hc ⊢; simp only at hc ⊢; rw [Tr.get_put, if_neg (by omega)]; exact h.top c hc
  · rw [AH.setB_eq]; exact h.lim
  · rw [AH.setB_eq]; exact h.hid
  · rw [AH.setB_eq]; exact h.exc
  · rw [hsz]; exact h.base
  · rw [hview] at hy; split at hy
    · cases hy; rw [hg] at hyg; cases hyg
    · exact h.gl c y hy hyg
  · refine ⟨μ.le_refl, fun _ _ h1 => .inl h1, by omega, fun c _ hno => hget c fun he => hno b e hm he.symm hcan, fun c f h1 h2 => (by rw [h2] at h1; cases h1), by simp, fun c hc hw' => ?_, fun c y hc hy => ?_, ho, ?_⟩
    · obtain ⟨⟨y, hy, hro⟩, hmm⟩ := hw'
      rw [AH.may_setB] at hmm; rw [hview] at hy
      split at hy
      · rename_i g; subst g; exact hcan
      · exact ⟨⟨y, hy, hro⟩, hmm⟩
    · rw [hview] at hy; split at hy
      · rename_i g; subst g; exact ⟨⟨x, hv, fun _ => hr⟩, fun hno => absurd hcan hno⟩
      · exact ⟨⟨y, hy, id⟩, fun _ => hy⟩
    · rw [AH.setB_eq]; exact ⟨rfl, rfl, rfl, rfl⟩

/-- A block is given up. -/
theorem kill_sound (h : HR CR B H μ w) (b : Nat) : HR CR B (H.delB b) μ w ∧ Ext H μ w (H.delB b) μ w := by
  have hview := AH.view_delB H b
  have hv' : ∀ c y, (H.delB b).view c = some y → c ≠ b ∧ H.view c = some y := fun c y hy => by
    rw [hview] at hy; split at hy
    · cases hy
    · rename_i g; exact ⟨g, hy⟩
  refine ⟨⟨fun c f y hc hy => h.blk c f y hc (hv' c y hy).2, fun c c' f f' y y' hne h1 h2 v1 v2 hro => h.sep c c' f f' y y' hne h1 h2 (hv' _ _ v1).2 (hv' _ _ v2).2 hro,
    fun c f y h1 v1 hro => h.low c f y h1 (hv' _ _ v1).2 hro, h.ins, fun c hc => ?_, ?_, ?_, ?_, h.base, fun c y hy hg => h.gl c y (hv' _ _ hy).2 hg⟩, ?_⟩
  · rw [AH.delB_eq] at hc ⊢; simp only at hc ⊢; rw [Tr.get_del]; split
    · rfl
    · exact h.top c hc
  · rw [AH.delB_eq]; exact h.lim
  · rw [AH.delB_eq]; exact h.hid
  · rw [AH.delB_eq]; exact h.exc
  · refine ⟨μ.le_refl, fun _ _ h1 => .inl h1, Nat.le_refl _, fun _ _ _ => rfl, fun c f h1 h2 => (by rw [h2] at h1; cases h1), by simp, fun c hc hw' => ?_, fun c y hc hy => ?_, ⟨rfl, rfl⟩, ?_⟩
    · obtain ⟨⟨y, hy, hro⟩, hmm⟩ := hw'
      rw [AH.may_delB] at hmm
      exact ⟨⟨y, (hv' _ _ hy).2, hro⟩, hmm⟩
    · exact ⟨⟨y, (hv' _ _ hy).2, id⟩, fun _ => (hv' _ _ hy).2⟩
    · rw [AH.delB_eq]; exact ⟨rfl, rfl, rfl, rfl⟩

/-- A block goes on under a new number, from a later cell on, changed. -/
theorem move_sound (h : HR CR B H μ w) {b : Nat} {e : Img} (hm : μ b = some e) {x x' : ABlk} (hv : H.view b = some x) (hr : x.ro = false) (hmay : H.may b = true) (hg : x'.glb = false)
    (hf : μ H.next = none) (e' : Img) (he : e'.c = e.c) (hsz : w'.heap.size = w.heap.size) (hget : ∀ c, c ≠ e.c → w'.heap[c]? = w.heap[c]?) (hb : BR CR (μ.add H.next e') x' e' w') (ho : w'.os = w.os ∧ w'.output = w.output := by exact ⟨rfl, rfl⟩) :
    HR CR B ((H.delB b).alloc x') (μ.add H.next e') w' ∧ Ext H μ w ((H.delB b).alloc x') (μ.add H.next e') w' := by
  have hlt := h.lt_of_view hv
  have hcan : H.canW b := ⟨⟨x, hv, hr⟩, hmay⟩
  have hle := μ.le_add H.next e' hf
  obtain ⟨hk, _⟩ := kill_sound h b
  have hnew : ((H.delB b).alloc x').view H.next = some x' := by have := hk.view_new x'; simpa using this
  have hold : ∀ c, c ≠ H.next → ((H.delB b).alloc x').view c = if c = b then none else H.view c := fun c hc => by
    rw [AH.view_alloc_ne _ _ (by simpa using hc), AH.view_delB]
  have hv' : ∀ c y, c ≠ H.next → ((H.delB b).alloc x').view c = some y → c ≠ b ∧ H.view c = some y := fun c y hc hy => by
    rw [hold c hc] at hy; split at hy
    · cases hy
    · rename_i g; exact ⟨g, hy⟩
  refine ⟨⟨fun c f y hc hy => ?_, fun c c' f f' y y' hne h1 h2 v1 v2 hro => ?_, fun c f y h1 v1 hro => ?_, fun c f h1 => ?_, fun c hc => ?_, ?_, ?_, ?_, ?_, fun c y hy hyg => ?_⟩, ?_⟩
  · unfold Mu.add at hc; split at hc
    · rename_i g; subst g; cases hc; rw [hnew] at hy; cases hy; exact hb
    · rename_i g; obtain ⟨g1, g2⟩ := hv' c y g hy
      exact ((h.blk c f y hc g2).mono hle).heap (hget _ fun hh => (h.sep b c e f x y (Ne.symm g1) hm hc hv g2 hr) hh.symm)
  · unfold Mu.add at h1 h2
    split at h1
    · rename_i g; subst g; cases h1; rw [if_neg (Ne.symm hne)] at h2
      obtain ⟨g1, g2⟩ := hv' c' y' (Ne.symm hne) v2
      rw [he]; exact h.sep b c' e f' x y' (Ne.symm g1) hm h2 hv g2 hr
    · rename_i g; obtain ⟨g1, g2⟩ := hv' c y g v1
      split at h2
      · cases h2; rw [he]; exact h.sep c b f e y x g1 h1 hm g2 hv hro
      · rename_i g'; obtain ⟨k1, k2⟩ := hv' c' y' g' v2
        exact h.sep c c' f f' y y' hne h1 h2 g2 k2 hro
  · unfold Mu.add at h1; split at h1
    · cases h1; rw [he]; exact h.low b e x hm hv hr
    · rename_i g; exact h.low c f y h1 (hv' c y g v1).2 hro
  · unfold Mu.add at h1; split at h1
    · cases h1; rw [he, hsz]; exact h.ins b e hm
    · rw [hsz]; exact h.ins c f h1
  · simp at hc; rw [AH.alloc_eq]; simp only; rw [Tr.get_put, if_neg (by simp; omega)]; exact hk.top c (by simp; omega)
  · rw [AH.alloc_eq, AH.delB_eq]; have := h.lim; simp; omega
  · rw [AH.alloc_eq, AH.delB_eq]; exact ⟨by have := h.hid.1; simp; omega, fun c hc => by have := h.hid.2 c hc; simp; omega⟩
  · rw [AH.alloc_eq, AH.delB_eq]; intro c hc; have := h.exc c hc; simp; omega
  · rw [hsz]; exact h.base
  · by_cases hc : c = H.next
    · subst hc; rw [hnew] at hy; cases hy; rw [hg] at hyg; cases hyg
    · obtain ⟨e₁, k1, k2⟩ := h.gl c y (hv' c y hc hy).2 hyg
      exact ⟨e₁, hle c e₁ k1, k2⟩
  · refine ⟨hle, fun c f h1 => ?_, by omega, fun c _ hno => hget c fun hh => hno b e hm hh.symm hcan, fun c f h1 h2 => ?_, by simp, fun c hc hw' => ?_, fun c y hc hy => ?_, ho, ?_⟩
    · unfold Mu.add at h1; split at h1
      · rename_i g; subst g; exact .inr ⟨hf, Nat.le_refl _, by simp⟩
      · exact .inl h1
    · unfold Mu.add at h1; split at h1
      · cases h1; exact .inr ⟨b, e, hm, he.symm, hcan⟩
      · rw [h2] at h1; cases h1
    · obtain ⟨⟨y, hy, hro⟩, hmm⟩ := hw'
      rw [AH.may_alloc, AH.may_delB] at hmm
      exact ⟨⟨y, (hv' c y (by omega) hy).2, hro⟩, hmm⟩
    · have := (hv' c y (by omega) hy).2; exact ⟨⟨y, this, id⟩, fun _ => this⟩
    · rw [AH.alloc_eq, AH.delB_eq]; exact ⟨rfl, rfl, rfl, rfl⟩
end
end Go.Ai
