/- What ties the abstract machine's values and heap to the model's. -/
import Derived.Test.YtebmoofioikenaaGreatDoorAi1
import Derived.RangeFuncRecord
import Derived.Laws.CopyRow
import Derived.OrdersIn
namespace Go.Ai
open Go

/-- Where an abstract block lies: the block, the first cell, how many cells there are from it to the block's end. -/
structure Img where
  c : Nat
  d : Nat
  n : Nat

abbrev Mu := Nat → Option Img

mutual
def VR (μ : Mu) : AV → Value → Prop
  | .undef, _ => True
  | .bool b, v => v = .bool b
  | .int k n, v => v = .int k n
  | .str s, v => v = .string ⟨s.toArray⟩
  | .ptr none, v => v = .pointer none
  | .ptr (some (b, o)), v => ∃ e, μ b = some e ∧ v = .pointer (some ⟨e.c, e.d + o, none⟩)
  | .sl none len cap _ _, v => len = 0 ∧ cap = 0 ∧ v = .slice none 0 0
  | .sl (some (b, o)) len cap ex z, v => ∃ a cap', v = .slice (some a) len cap' ∧ len ≤ cap ∧ cap ≤ cap' ∧ (ex = true → cap' = cap) ∧
      (cap' = 0 ∨ ∃ e, μ b = some e ∧ a = ⟨e.c, e.d + o, none⟩ ∧ o + cap' * z ≤ e.n)
  | .map none, v => v = .map none
  | .map (some b), v => ∃ e, μ b = some e ∧ v = .map (some e.c)
  | .fn f first cap, v => ∃ fs cs : Array Value, v = .func (.func f) fs cs ∧ VRs μ first fs.toList ∧ VRs μ cap cs.toList
  | .yld l, v => ∃ e, μ l = some e ∧ v = .func (.yield e.c) #[] #[]
  | .nilFn, v => v = .nilFunc
  | .iface t x, v => ∃ y, v = .iface t y ∧ VR μ x y
  | .nilIface, v => v = .nilIface
  | .agg cs, v => ∃ ys : Array Value, v = .agg ys ∧ VRs μ cs ys.toList
  | .tup vs, v => ∃ ys : Array Value, v = .tuple ys ∧ VRs μ vs ys.toList
def VRs (μ : Mu) : List AV → List Value → Prop
  | [], ys => ys = []
  | x :: xs, ys => ∃ y r, ys = y :: r ∧ VR μ x y ∧ VRs μ xs r
end

def Mu.le (μ μ' : Mu) : Prop := ∀ b e, μ b = some e → μ' b = some e
theorem Mu.le_refl (μ : Mu) : μ.le μ := fun _ _ h => h
theorem Mu.le_trans {μ ν ρ : Mu} (h : μ.le ν) (h' : ν.le ρ) : μ.le ρ := fun b e x => h' b e (h b e x)

mutual
theorem VR.mono {μ μ' : Mu} (h : μ.le μ') : ∀ (a : AV) (v : Value), VR μ a v → VR μ' a v
  | .undef, _, _ => trivial
  | .bool _, _, x => x
  | .int _ _, _, x => x
  | .str _, _, x => x
  | .ptr none, _, x => x
  | .ptr (some (_, _)), _, ⟨e, h1, h2⟩ => ⟨e, h _ _ h1, h2⟩
  | .sl none _ _ _ _, _, x => x
  | .sl (some (_, _)) _ _ _ _, _, ⟨a, c, h1, h2, h3, h4, h5⟩ => ⟨a, c, h1, h2, h3, h4, h5.imp id fun ⟨e, g1, g2⟩ => ⟨e, h _ _ g1, g2⟩⟩
  | .map none, _, x => x
  | .map (some _), _, ⟨e, h1, h2⟩ => ⟨e, h _ _ h1, h2⟩
  | .fn _ f c, _, ⟨fs, cs, h1, h2, h3⟩ => ⟨fs, cs, h1, VRs.mono h f _ h2, VRs.mono h c _ h3⟩
  | .yld _, _, ⟨e, h1, h2⟩ => ⟨e, h _ _ h1, h2⟩
  | .nilFn, _, x => x
  | .iface _ x, _, ⟨y, h1, h2⟩ => ⟨y, h1, VR.mono h x _ h2⟩
  | .nilIface, _, x => x
  | .agg cs, _, ⟨ys, h1, h2⟩ => ⟨ys, h1, VRs.mono h cs _ h2⟩
  | .tup vs, _, ⟨ys, h1, h2⟩ => ⟨ys, h1, VRs.mono h vs _ h2⟩
theorem VRs.mono {μ μ' : Mu} (h : μ.le μ') : ∀ (a : List AV) (v : List Value), VRs μ a v → VRs μ' a v
  | [], _, x => x
  | x :: xs, _, ⟨y, r, h1, h2, h3⟩ => ⟨y, r, h1, VR.mono h x _ h2, VRs.mono h xs _ h3⟩
end

theorem VRs.length {μ : Mu} : ∀ {xs : List AV} {ys : List Value}, VRs μ xs ys → ys.length = xs.length
  | [], _, h => by cases h; rfl
  | _ :: _, _, ⟨y, r, h1, _, h3⟩ => by subst h1; simp [VRs.length h3]
theorem VRs.get {μ : Mu} : ∀ {xs : List AV} {ys : List Value} {i : Nat} {x : AV}, VRs μ xs ys → xs[i]? = some x → ∃ y, ys[i]? = some y ∧ VR μ x y
  | [], _, _, _, _, h => by simp at h
  | _ :: _, _, 0, x, ⟨y, r, h1, h2, _⟩, h => by subst h1; simp at h; subst h; exact ⟨y, by simp, h2⟩
  | _ :: _, _, i + 1, x, ⟨y, r, h1, _, h3⟩, h => by subst h1; simp at h; obtain ⟨z, hz, hv⟩ := VRs.get h3 h; exact ⟨z, by simpa using hz, hv⟩
theorem VRs.of {μ : Mu} : ∀ {xs : List AV} {ys : List Value}, ys.length = xs.length → (∀ (i : Nat) (x : AV) (y : Value), xs[i]? = some x → ys[i]? = some y → VR μ x y) → VRs μ xs ys
  | [], ys, h, _ => by simpa [VRs] using h
  | x :: xs, [], h, _ => by simp at h
  | x :: xs, y :: ys, h, g => ⟨y, ys, rfl, g 0 x y rfl rfl, VRs.of (by simpa using h) fun i a b ha hb => g (i + 1) a b (by simpa using ha) (by simpa using hb)⟩
theorem VRs.append {μ : Mu} : ∀ {xs xs' : List AV} {ys ys' : List Value}, VRs μ xs ys → VRs μ xs' ys' → VRs μ (xs ++ xs') (ys ++ ys')
  | [], _, _, _, h, h' => by cases h; simpa using h'
  | _ :: _, _, _, _, ⟨y, r, h1, h2, h3⟩, h' => by subst h1; exact ⟨y, r ++ _, rfl, h2, VRs.append h3 h'⟩
theorem VRs.take {μ : Mu} {xs : List AV} {ys : List Value} (n : Nat) (h : VRs μ xs ys) : VRs μ (xs.take n) (ys.take n) :=
  VRs.of (by simp [h.length]) fun i x y hx hy => by
    rw [List.getElem?_take] at hx hy
    split at hx
    · rename_i hi; rw [if_pos hi] at hy; obtain ⟨z, hz, hv⟩ := h.get hx; rw [hy] at hz; cases hz; exact hv
    · cases hx
theorem VRs.drop {μ : Mu} {xs : List AV} {ys : List Value} (n : Nat) (h : VRs μ xs ys) : VRs μ (xs.drop n) (ys.drop n) :=
  VRs.of (by simp [h.length]) fun i x y hx hy => by
    rw [List.getElem?_drop] at hx hy
    obtain ⟨z, hz, hv⟩ := h.get hx; rw [hy] at hz; cases hz; exact hv
theorem VRs.nil {μ : Mu} {ys : List Value} : VRs μ [] ys ↔ ys = [] := Iff.rfl
theorem VRs.single {μ : Mu} {x : AV} {y : Value} (h : VR μ x y) : VRs μ [x] [y] := ⟨y, [], rfl, h, rfl⟩

/-- The cells of two values. -/
theorem VR.cells {μ : Mu} {a : AV} {v : Value} (h : VR μ a v) (hu : a ≠ .undef) : VRs μ a.cells v.cells.toList := by
  cases a with
  | undef => exact absurd rfl hu
  | agg cs => obtain ⟨ys, h1, h2⟩ := h; subst h1; exact h2
  | bool b => cases h; exact VRs.single rfl
  | int k n => cases h; exact VRs.single rfl
  | str s => cases h; exact VRs.single rfl
  | ptr a =>
    cases a with
    | none => cases h; exact VRs.single rfl
    | some p => obtain ⟨b, o⟩ := p; obtain ⟨e, h1, h2⟩ := h; subst h2; exact VRs.single ⟨e, h1, rfl⟩
  | sl a l c x z =>
    cases a with
    | none => obtain ⟨h1, h2, h3⟩ := h; subst h3; exact VRs.single ⟨h1, h2, rfl⟩
    | some p => obtain ⟨b, o⟩ := p; obtain ⟨a, c', h1, h2⟩ := h; subst h1; exact VRs.single ⟨a, c', rfl, h2⟩
  | map r =>
    cases r with
    | none => cases h; exact VRs.single rfl
    | some b => obtain ⟨e, h1, h2⟩ := h; subst h2; exact VRs.single ⟨e, h1, rfl⟩
  | fn f x y => obtain ⟨fs, cs, h1, h2⟩ := h; subst h1; exact VRs.single ⟨fs, cs, rfl, h2⟩
  | yld l => obtain ⟨e, h1, h2⟩ := h; subst h2; exact VRs.single ⟨e, h1, rfl⟩
  | nilFn => cases h; exact VRs.single rfl
  | iface t x => obtain ⟨y, h1, h2⟩ := h; subst h1; exact VRs.single ⟨y, rfl, h2⟩
  | nilIface => cases h; exact VRs.single rfl
  | tup vs => obtain ⟨ys, h1, h2⟩ := h; subst h1; exact VRs.single ⟨ys, rfl, h2⟩

end Go.Ai
