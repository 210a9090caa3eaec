/- Regions that draw their order: the parts that speak of no memory. -/
import Derived.Test.YtebmoofioikenaaGreatDoorAi14
namespace Go.Ai
open Go

/-! ### A frame cut down to some slots -/
def Fr.keep {α : Type} (f : Pth → Bool) : Fr α → Fr α
  | .nil => .nil
  | .node v l r => .node (if f .e then v else none) (Fr.keep (fun p => f (.o p)) l) (Fr.keep (fun p => f (.i p)) r)
theorem Fr.get_keep {α : Type} (t : Fr α) : ∀ (f : Pth → Bool) (p : Pth), (t.keep f).get p = if f p then t.get p else none := by
  induction t with
  | nil => intro f p; simp [Fr.keep]
  | node v l r ihl ihr =>
    intro f p
    cases p with
    | e => simp only [Fr.keep, Fr.get_node_e]
    | o p => simp only [Fr.keep, Fr.get_node_o, ihl]
    | i p => simp only [Fr.keep, Fr.get_node_i, ihr]

/-! ### What an operation looks at -/
def opdP : Opd → List Pth
  | .t p => [p]
  | _ => []

def IOp.opds : IOp → List Opd
  | .move x => [x]
  | .pick c a b => [c, a, b]
  | .alloc _ _ => []
  | .box x => [x]
  | .build _ ps => ps.map fun q => q.2.2
  | .buildSlice _ _ _ ps => ps.map fun q => q.2.2
  | .load x => [x]
  | .loadAgg _ x => [x]
  | .store _ a v => [a, v]
  | .nilCheck x => [x]
  | .bin _ x y => [x, y]
  | .eqB _ x y => [x, y]
  | .eqAgg _ _ x y => [x, y]
  | .eqNil _ _ x y => [x, y]
  | .un _ x => [x]
  | .convInt _ x => [x]
  | .convStr x => [x]
  | .bytesToStr x => [x]
  | .strToBytes x => [x]
  | .mkIface _ x => [x]
  | .mkFn _ a b => a ++ b
  | .mkMap => []
  | .mkSlice _ _ _ l c => [l, c]
  | .sliceStr x l h => x :: (l.toList ++ h.toList)
  | .sliceSl _ x l h m => x :: (l.toList ++ (h.toList ++ m.toList))
  | .sliceArr _ _ x l h => x :: (l.toList ++ h.toList)
  | .fieldAddr _ x => [x]
  | .field _ _ x => [x]
  | .idxAddrArr _ _ x i => [x, i]
  | .idxAddrSl _ x i => [x, i]
  | .idxArr _ _ _ x i => [x, i]
  | .idxStr x i => [x, i]
  | .lookup _ _ _ _ m k => [m, k]
  | .mapUpdate _ _ m k v => [m, k, v]
  | .extract x _ => [x]
  | .call f args => f :: args
  | .len _ x => [x]
  | .lenArr _ => []
  | .append _ _ _ s x => [s, x]
  | .copy _ d s => [d, s]
  | .clearSl _ x => [x]
  | .minmax _ xs => xs
  | .stuck => []
  | .loadG _ _ => []
  | .idxAddrG _ _ _ i => [i]
  | .rangeStr x => [x]
  | .nextStr x => [x]

def gP (g : Option (Pth × Bool)) : List Pth :=
  match g with
  | some (p, _) => [p]
  | none => []
def IOper.reads (x : IOper) : List Pth := gP x.guard ++ x.op.opds.flatMap opdP

section
variable {τ τ' : Fr AV} {H : AH}
theorem opd_congr {x : Opd} (h : ∀ p ∈ opdP x, τ.get p = τ'.get p) : x.ev τ = x.ev τ' := by
  cases x with
  | t p => show (τ.get p).ogetU = (τ'.get p).ogetU; rw [h p (by simp [opdP])]
  | c v => rfl
  | f n => rfl
  | g n => rfl

theorem fillC_congr : ∀ {ps : List (Nat × Nat × Opd)} (l : List AV), (∀ y ∈ ps.map (fun q => q.2.2), y.ev τ = y.ev τ') → fillC τ l ps = fillC τ' l ps
  | [], _, _ => rfl
  | p :: ps, l, h => by
    have e : ∀ τ, fillC τ l (p :: ps) = ifb (p.2.2.ev τ).isDef (ifb (Nat.beq (p.2.2.ev τ).cells.length p.2.1) ((over l p.1 (p.2.2.ev τ).cells).obind (fun l => fillC τ l ps)) none) none := fun _ => rfl
    rw [e, e, h p.2.2 (by simp)]
    congr 2
    exact congrArg _ (funext fun l => fillC_congr l fun y hy => h y (by simp only [List.map_cons, List.mem_cons]; exact .inr hy))

theorem boundO_congr {m d : Nat} {x : Option Opd} (h : ∀ y ∈ x.toList, y.ev τ = y.ev τ') : boundO τ m d x = boundO τ' m d x := by
  cases x with
  | none => rfl
  | some x => show bound m _ = bound m _; rw [h x (by simp)]

theorem map_ev_congr {xs : List Opd} (h : ∀ y ∈ xs, y.ev τ = y.ev τ') : xs.map (Opd.ev τ) = xs.map (Opd.ev τ') := List.map_congr_left h

theorem opRun_congr {x : IOp} (h : ∀ y ∈ x.opds, y.ev τ = y.ev τ') : opRun x τ H = opRun x τ' H := by
  cases x
  case build z ps => show rBuild _ _ _ _ = rBuild _ _ _ _; unfold rBuild; rw [fillC_congr z h]
  case buildSlice z e l ps => show rBuildSlice _ _ _ _ _ _ = rBuildSlice _ _ _ _ _ _; unfold rBuildSlice; rw [fillC_congr _ h]
  case mkFn f a b =>
    show rMkFn _ _ _ _ _ = rMkFn _ _ _ _ _; unfold rMkFn
    rw [map_ev_congr (fun y hy => h y (by simp [IOp.opds, hy])), map_ev_congr (xs := b) (fun y hy => h y (by simp [IOp.opds, hy]))]
  case sliceStr x l hi =>
    show rSliceStr _ _ _ _ _ = rSliceStr _ _ _ _ _; unfold rSliceStr
    rw [h x (by simp [IOp.opds])]
    simp only [boundO_congr (x := l) (fun y hy => h y (by simp [IOp.opds] at hy ⊢; simp [hy])), boundO_congr (x := hi) (fun y hy => h y (by simp [IOp.opds] at hy ⊢; simp [hy]))]
  case sliceSl e x l hi m =>
    show rSliceSl _ _ _ _ _ _ _ = rSliceSl _ _ _ _ _ _ _; unfold rSliceSl
    rw [h x (by simp [IOp.opds])]
    simp only [boundO_congr (x := l) (fun y hy => h y (by simp [IOp.opds] at hy ⊢; simp [hy])), boundO_congr (x := hi) (fun y hy => h y (by simp [IOp.opds] at hy ⊢; simp [hy])), boundO_congr (x := m) (fun y hy => h y (by simp [IOp.opds] at hy ⊢; simp [hy]))]
  case sliceArr n e x l hi =>
    show rSliceArr _ _ _ _ _ _ _ = rSliceArr _ _ _ _ _ _ _; unfold rSliceArr
    rw [h x (by simp [IOp.opds])]
    simp only [boundO_congr (x := l) (fun y hy => h y (by simp [IOp.opds] at hy ⊢; simp [hy])), boundO_congr (x := hi) (fun y hy => h y (by simp [IOp.opds] at hy ⊢; simp [hy]))]
  case call f args =>
    show rCall _ _ _ H = rCall _ _ _ H; unfold rCall
    rw [h f (by simp [IOp.opds]), map_ev_congr (fun y hy => h y (by simp [IOp.opds, hy]))]
  case minmax m xs =>
    show rMinmax _ _ _ _ = rMinmax _ _ _ _; unfold rMinmax
    rw [map_ev_congr (xs := xs) h]
  all_goals
    simp only [IOp.opds, List.mem_cons, List.not_mem_nil, or_false, forall_eq_or_imp, forall_eq, false_imp_iff, implies_true] at h
    first
      | rfl
      | (simp only [opRun, rMove, rPick, rBox, rLoad, rLoadAgg, rStore, rNilCheck, rBin, rEqB, rEqAgg, rEqNil, rUn, rConvInt, rConvStr, rBytesToStr, rStrToBytes, rMkIface, rMkSlice, rFieldAddr, rField, rIdxAddrArr, rIdxAddrSl, rIdxArr, rIdxStr, rLookup, rMapUpdate, rExtract, rLen, rAppend, rCopy, rClearSl, rIdxAddrG, rRangeStr, rNextStr, h])

theorem evOp_congr {rec : Task → Option Res} {x : IOper} (h : ∀ p ∈ x.reads, τ.get p = τ'.get p) {q : Fr AV × AH} (hq : evOp rec x τ H = some q) : ∃ v, q.1 = putD τ x.dst v ∧ evOp rec x τ' H = some (putD τ' x.dst v, q.2) := by
  have hg : wantedB τ x.guard = wantedB τ' x.guard := by
    cases hx : x.guard with
    | none => rfl
    | some g => obtain ⟨p, b⟩ := g; show wantV (τ.get p).ogetU b = wantV (τ'.get p).ogetU b; rw [h p (by simp [IOper.reads, gP, hx])]
  have ho : opRun x.op τ H = opRun x.op τ' H := opRun_congr fun y hy => opd_congr fun p hp => h p (List.mem_append_right _ (List.mem_flatMap.2 ⟨y, hy, hp⟩))
  unfold evOp at hq ⊢
  rw [← hg, ← ho]
  obtain ⟨t, ht, hq⟩ := obind_eq_some.1 hq
  rw [ht]
  cases t
  · cases hq; exact ⟨_, rfl, rfl⟩
  · obtain ⟨out, h1, hq⟩ := obind_eq_some.1 hq
    rw [h1]
    cases out with
    | val v H' => obtain ⟨g1, rfl⟩ := onward_some.1 hq; exact ⟨v, rfl, onward_some.2 ⟨g1, rfl⟩⟩
    | skip H' => obtain ⟨g1, rfl⟩ := onward_some.1 hq; exact ⟨_, rfl, onward_some.2 ⟨g1, rfl⟩⟩
    | call f args =>
      obtain ⟨r, h2, hq⟩ := obind_eq_some.1 hq
      obtain ⟨g1, rfl⟩ := onward_some.1 hq
      refine ⟨r.v, rfl, ?_⟩
      show (rec (.call f args H)).obind (fun r => onward H r.H (putD τ' x.dst r.v)) = _
      rw [h2]
      exact onward_some.2 ⟨g1, rfl⟩
end

/-! ### Steps of which only some have been made -/
open Classical in
noncomputable def mix {β : Type} (S t : Nat → Prop) (f : Nat → β) : Nat → β
  | 0 => f 0
  | k + 1 => if S k ∧ t k then f (k + 1) else mix S t f k

section
variable {β : Type} {S S' t : Nat → Prop} {f : Nat → β}
theorem mix_all {i : Nat} (hS : ∀ k, k < i → t k → S k) (hf : ∀ k, k < i → ¬ t k → f (k + 1) = f k) : mix S t f i = f i := by
  induction i with
  | zero => rfl
  | succ i ih =>
    have ih := ih (fun k hk => hS k (by omega)) (fun k hk => hf k (by omega))
    unfold mix
    by_cases ht : t i
    · rw [if_pos ⟨hS i (by omega) ht, ht⟩]
    · rw [if_neg (fun h => ht h.2), ih, hf i (by omega) ht]
theorem mix_stay {i n : Nat} (hin : i ≤ n) (h : ∀ k, i ≤ k → k < n → S k → ¬ t k) : mix S t f n = mix S t f i := by
  induction n with
  | zero => rw [Nat.le_zero.1 hin]
  | succ n ih =>
    by_cases hi : i = n + 1
    · rw [hi]
    · unfold mix
      rw [if_neg (fun g => h n (by omega) (by omega) g.1 g.2), ih (by omega) (fun k h1 h2 => h k h1 (by omega))]
      cases i <;> rfl
theorem mix_at {i n : Nat} (hin : i ≤ n) (hS : ∀ k, k < i → t k → S k) (hf : ∀ k, k < i → ¬ t k → f (k + 1) = f k) (h : ∀ k, i ≤ k → k < n → S k → ¬ t k) : mix S t f n = f i :=
  (mix_stay hin h).trans (mix_all hS hf)
theorem mix_congr {n : Nat} (h : ∀ k, k < n → t k → (S k ↔ S' k)) : mix S t f n = mix S' t f n := by
  induction n with
  | zero => rfl
  | succ n ih =>
    unfold mix
    rw [ih (fun k hk => h k (by omega))]
    by_cases ht : t n
    · by_cases hs : S n
      · rw [if_pos ⟨hs, ht⟩, if_pos ⟨(h n (by omega) ht).1 hs, ht⟩]
      · rw [if_neg (fun g => hs g.1), if_neg (fun g => hs ((h n (by omega) ht).2 g.1))]
    · rw [if_neg (fun g => ht g.2), if_neg (fun g => ht g.2)]
theorem mix_last {i n : Nat} (hin : i < n) (hi : S i) (ht : t i) (h : ∀ k, i < k → k < n → S k → ¬ t k) : mix S t f n = f (i + 1) := by
  rw [mix_stay (i := i + 1) hin (fun k h1 h2 => h k (by omega) h2)]
  unfold mix; rw [if_pos ⟨hi, ht⟩]
end

/-! ### Fences -/
section
variable {rg : List (Nat × Nat)} {xs : List Nat} {f : Nat} {H : AH}
theorem fence_blk : (fence rg xs f H).blk = H.blk := by
  unfold fence; cases H; simp only [ifb_eq]; repeat' split
  all_goals rfl
theorem fence_may {b : Nat} (hm : (fence rg xs f H).may b = true) (hb : b < H.next) : (f = 0 ∨ f = 3 ∧ inRg b rg = false ∧ b ∈ xs) ∧ H.may b = true := by
  unfold fence at hm
  cases H with
  | mk next blk lim exc hidAt hid =>
    simp only [ifb_eq] at hm
    split at hm
    · rename_i h0; exact ⟨.inl (by simpa using h0), hm⟩
    · split at hm
      · rcases AH.may_iff.1 hm with g | g
        · simp at hb g; omega
        · simp at g
      · split at hm
        · rcases AH.may_iff.1 hm with g | g
          · simp at hb g; omega
          · simp at g
        · split at hm
          · rename_i h3
            rcases AH.may_iff.1 hm with g | g
            · simp at hb g; omega
            · simp at g
              exact ⟨.inr ⟨by simpa using h3, by simpa using g.2.2.2, g.1⟩, g.2.1⟩
          · rcases AH.may_iff.1 hm with g | g
            · simp at hb g; omega
            · simp at g
theorem fence_view (ht : H.topOk) {b : Nat} {x : ABlk} (hv : (fence rg xs f H).view b = some x) : H.view b = some x ∧ f ≠ 2 ∧ (f = 4 → b ∉ xs) := by
  have hblk := view_blk hv
  rw [fence_blk] at hblk
  unfold fence at hv
  cases H with
  | mk next blk lim exc hidAt hid =>
    have key : ∀ {h' : AH}, h'.view b = some x → ¬ (b < h'.hidAt ∨ b ∈ h'.hid) := fun {h'} g hh => by rw [AH.view_eq, if_pos hh] at g; cases g
    simp only [ifb_eq] at hv
    rw [AH.view_eq]
    split at hv
    · rename_i h0; have h0 : f = 0 := by simpa using h0
      have := key hv
      exact ⟨by rw [if_neg this]; exact hblk, by omega, fun h => by omega⟩
    · split at hv
      · rename_i h0; have h0 : f = 1 := by simpa using h0
        have := key hv
        exact ⟨by rw [if_neg this]; exact hblk, by omega, fun h => by omega⟩
      · split at hv
        · rename_i h0; have h0 : f = 2 := by simpa using h0
          have := key hv
          simp at this
          have := ht b this.1
          rw [hblk] at this; cases this
        · split at hv
          · rename_i h0; have h0 : f = 3 := by simpa using h0
            have := key hv
            exact ⟨by rw [if_neg this]; exact hblk, by omega, fun h => by omega⟩
          · rename_i h2 _
            have := key hv
            simp at this h2
            refine ⟨by rw [if_neg (by simp; exact ⟨by omega, this.2.2⟩)]; exact hblk, h2, fun _ hx => ?_⟩
            have := this.2.1 hx
            have := ht b (by simp at this ⊢; omega)
            rw [hblk] at this; cases this
end
end Go.Ai
