/- Regions that draw their order: whatever the order, the answer is that of the order of the text. -/
import Derived.Test.YtebmoofioikenaaGreatDoorAi15
namespace Go.Ai
open Go

/-- k must be made before i. -/
inductive PredOf (os : List IOper) : Nat → Nat → Prop
  | base {i k : Nat} {x : IOper} : os[i]? = some x → k ∈ x.after → PredOf os i k
  | step {i m k : Nat} {x : IOper} : os[i]? = some x → m ∈ x.after → PredOf os m k → PredOf os i k

/-- Operations that neither see nor change a heap. -/
def quietOp : IOp → Bool
  | .move _ => true
  | .pick _ _ _ => true
  | .nilCheck _ => true
  | .bin _ _ _ => true
  | .eqB _ _ _ => true
  | .eqAgg _ _ _ _ => true
  | .eqNil _ _ _ _ => true
  | .un _ _ => true
  | .convInt _ _ => true
  | .convStr _ => true
  | .mkIface _ _ => true
  | .mkFn _ _ _ => true
  | .build _ _ => true
  | .fieldAddr _ _ => true
  | .field _ _ _ => true
  | .idxArr _ _ _ _ _ => true
  | .idxAddrSl _ _ _ => true
  | .idxAddrArr _ _ _ _ => true
  | .idxStr _ _ => true
  | .extract _ _ => true
  | .lenArr _ => true
  | _ => false

theorem quiet_next {rec : Task → Option Res} {x : IOper} (hq : quietOp x.op = true) {τ : Fr AV} {H : AH} {p : Fr AV × AH} (h : evOp rec x τ H = some p) : p.2 = H := by
  unfold evOp at h
  obtain ⟨t, _, h⟩ := obind_eq_some.1 h
  cases t
  · cases h; rfl
  · obtain ⟨out, ho, h⟩ := obind_eq_some.1 h
    have key : ∃ v, out = .val v H := by
      cases hx : x.op <;> rw [hx] at hq ho <;> first | (cases hq; done) | skip
      case move y => cases ho; exact ⟨_, rfl⟩
      case pick c a b =>
        have ho : (c.ev τ).boolK (fun t => some (Out.val (ifb t (a.ev τ) (b.ev τ)) H)) = some out := ho
        generalize c.ev τ = v at ho
        cases v <;> simp [AV.boolK] at ho; exact ⟨_, ho.symm⟩
      case nilCheck y =>
        have ho : rNilCheck y τ H = some out := ho
        unfold rNilCheck at ho
        split at ho <;> first | (cases ho; exact ⟨_, rfl⟩) | cases ho
      case bin op y z => obtain ⟨v, _, rfl⟩ := valK_some (show valK H _ = some out from ho); exact ⟨v, rfl⟩
      case eqB neg y z =>
        have ho : (y.ev τ).boolK (fun s => (z.ev τ).boolK fun t => some (Out.val (.bool (xor neg (not (xor s t)))) H)) = some out := ho
        generalize y.ev τ = v at ho
        generalize z.ev τ = v' at ho
        cases v <;> simp [AV.boolK] at ho
        cases v' <;> simp at ho
        exact ⟨_, ho.symm⟩
      case eqAgg neg ks y z =>
        obtain ⟨_, _, ho⟩ := obind_eq_some.1 (show (eqV true ks (y.ev τ) (z.ev τ)).obind _ = some out from ho)
        cases ho; exact ⟨_, rfl⟩
      case eqNil k neg y z =>
        obtain ⟨_, _, ho⟩ := obind_eq_some.1 (show (nilOf k (y.ev τ)).obind _ = some out from ho)
        obtain ⟨_, _, ho⟩ := obind_eq_some.1 ho
        rw [ifb_none_eq_some] at ho
        cases ho.2; exact ⟨_, rfl⟩
      case un op y => obtain ⟨v, _, rfl⟩ := valK_some (show valK H _ = some out from ho); exact ⟨v, rfl⟩
      case convInt k y =>
        have ho : (y.ev τ).intK (fun _ n => some (Out.val (.int k (wrapK k n)) H)) = some out := ho
        generalize y.ev τ = v at ho
        cases v <;> simp [AV.intK] at ho; exact ⟨_, ho.symm⟩
      case convStr y =>
        have ho : (y.ev τ).strK (fun s => some (Out.val (.str s) H)) = some out := ho
        generalize y.ev τ = v at ho
        cases v <;> simp [AV.strK] at ho; exact ⟨_, ho.symm⟩
      case mkIface t y => cases ho; exact ⟨_, rfl⟩
      case mkFn f a b => cases ho; exact ⟨_, rfl⟩
      case build z ps =>
        obtain ⟨_, _, ho⟩ := obind_eq_some.1 (show (fillC τ z ps).obind _ = some out from ho)
        cases ho; exact ⟨_, rfl⟩
      case fieldAddr f y =>
        have ho : (y.ev τ).ptrK (fun b o => some (Out.val (.ptr (some (b, o + f))) H)) = some out := ho
        generalize y.ev τ = v at ho
        cases v <;> simp [AV.ptrK] at ho
        rename_i p; cases p <;> simp [pairK] at ho; exact ⟨_, ho.symm⟩
      case field f g y =>
        have ho : (y.ev τ).aggK (fun cs => valK H (partV f g cs)) = some out := ho
        generalize y.ev τ = v at ho
        cases v <;> simp [AV.aggK] at ho
        obtain ⟨v, _, rfl⟩ := valK_some ho; exact ⟨v, rfl⟩
      case idxAddrArr n e y i =>
        have ho : (y.ev τ).ptrK (fun b o => (i.ev τ).intK fun _ j => ifb (and (ileb 0 j) (iltb j (.ofNat n))) (some (Out.val (.ptr (some (b, o + j.toNat * e))) H)) none) = some out := ho
        generalize y.ev τ = v at ho
        generalize i.ev τ = v' at ho
        cases v <;> simp [AV.ptrK] at ho
        rename_i p; cases p <;> simp [pairK] at ho
        cases v' <;> simp [AV.intK] at ho
        rw [ifb_none_eq_some] at ho
        cases ho.2; exact ⟨_, rfl⟩
      case idxAddrSl e y i =>
        have ho : (y.ev τ).slK (fun a len _ _ esz' => a.obind fun p => (i.ev τ).intK fun _ j => ifb (Nat.beq e esz') (ifb (and (ileb 0 j) (iltb j (.ofNat len))) (some (Out.val (.ptr (some (p.1, p.2 + j.toNat * e))) H)) none) none) = some out := ho
        generalize y.ev τ = v at ho
        generalize i.ev τ = v' at ho
        cases v <;> simp [AV.slK] at ho
        obtain ⟨p, _, ho⟩ := obind_eq_some.1 ho
        cases v' <;> simp [AV.intK] at ho
        rw [ifb_none_eq_some, ifb_none_eq_some] at ho
        cases ho.2.2; exact ⟨_, rfl⟩
      case idxArr n e g y i =>
        have ho : (y.ev τ).aggK (fun cs => (i.ev τ).intK fun _ j => ifb (and (ileb 0 j) (iltb j (.ofNat n))) (valK H (partV (j.toNat * e) (ifb g (some e) none) cs)) none) = some out := ho
        generalize y.ev τ = v at ho
        generalize i.ev τ = v' at ho
        cases v <;> simp [AV.aggK] at ho
        cases v' <;> simp [AV.intK] at ho
        rw [ifb_none_eq_some] at ho
        obtain ⟨v, _, rfl⟩ := valK_some ho.2; exact ⟨v, rfl⟩
      case idxStr y i =>
        have ho : (y.ev τ).strK (fun s => (i.ev τ).intK fun _ j => ifb (ileb 0 j) ((nth s j.toNat).obind fun b => some (Out.val (byteV b) H)) none) = some out := ho
        generalize y.ev τ = v at ho
        generalize i.ev τ = v' at ho
        cases v <;> simp [AV.strK] at ho
        cases v' <;> simp [AV.intK] at ho
        rw [ifb_none_eq_some] at ho
        obtain ⟨b, _, ho⟩ := obind_eq_some.1 ho.2
        cases ho; exact ⟨_, rfl⟩
      case extract y i =>
        have ho : (y.ev τ).tupK (fun vs => valK H (nth vs i)) = some out := ho
        generalize y.ev τ = v at ho
        cases v <;> simp [AV.tupK] at ho
        obtain ⟨v, _, rfl⟩ := valK_some ho; exact ⟨v, rfl⟩
      case lenArr n => cases ho; exact ⟨_, rfl⟩
    obtain ⟨v, rfl⟩ := key
    obtain ⟨_, rfl⟩ := onward_some.1 h
    rfl

/-- Two operations that may be made in either order do not disturb each other. -/
def Compat (x y : IOper) : Prop :=
  (x.flag = 0 → y.flag = 2 ∧ quietOp y.op = true) ∧ (y.flag = 0 → x.flag = 2 ∧ quietOp x.op = true) ∧ (x.flag = 3 → y.flag = 2 ∨ (y.flag = 4 ∧ ∀ z ∈ x.xs, z ∈ y.xs)) ∧ (y.flag = 3 → x.flag = 2 ∨ (x.flag = 4 ∧ ∀ z ∈ y.xs, z ∈ x.xs))

structure Static (tt : TT) (N : Nat) (os : List IOper) (ops : Array Oper) : Prop where
  len : os.length = ops.size
  op : ∀ (i : Nat) (x : IOper) (o : Oper), os[i]? = some x → ops[i]? = some o → ckOper tt N ops x o = some ()
  aft : ∀ (i : Nat) (x : IOper) (o : Oper), os[i]? = some x → ops[i]? = some o → ∀ k ∈ x.after, k < i ∧ ∃ e ∈ o.after.toList, Region.binds .any e = true ∧ e.on = k
  low : ∀ (i : Nat) (o : Oper), ops[i]? = some o → ∀ e ∈ o.after.toList, Region.binds .any e = true → e.on < i
  rd : ∀ (i j : Nat) (x y : IOper) (p : Pth), os[i]? = some x → os[j]? = some y → i ≠ j → y.dst = some p → p ∈ x.reads → PredOf os i j ∨ PredOf os j i
  ds : ∀ (i j : Nat) (x y : IOper) (p : Pth), os[i]? = some x → os[j]? = some y → i ≠ j → x.dst = some p → y.dst = some p → False
  cp : ∀ (i j : Nat) (x y : IOper), os[i]? = some x → os[j]? = some y → i ≠ j → ¬ PredOf os i j → ¬ PredOf os j i → Compat x y
  hd : ∀ (i j : Nat) (x y : IOper), os[i]? = some x → os[j]? = some y → j < i → ¬ PredOf os i j → ¬ PredOf os j i → x.flag = 3 → quietOp y.op = true ∨ i - 1 - j ∈ x.hide

theorem PredOf.lt {tt : TT} {N : Nat} {os : List IOper} {ops : Array Oper} (st : Static tt N os ops) {i k : Nat} (h : PredOf os i k) : k < i := by
  have get : ∀ {i : Nat} {x : IOper}, os[i]? = some x → ∃ o, ops[i]? = some o := fun {i x} hx => by
    have h1 := (List.getElem?_eq_some_iff.1 hx).1
    rw [st.len] at h1
    exact ⟨ops[i], by simp [h1]⟩
  induction h with
  | base hx hk => obtain ⟨o, ho⟩ := get hx; exact (st.aft _ _ _ hx ho _ hk).1
  | step hx hm _ ih => obtain ⟨o, ho⟩ := get hx; exact Nat.lt_trans ih (st.aft _ _ _ hx ho _ hm).1

def xsOf (X : Opd → List Nat) (x : IOper) : List Nat := x.xs.flatMap X

/-- Where the blocks lie that the first operations have laid, the last one's first. -/
def nsFrom (ns : List (Nat × Nat)) (Hs : Nat → AH) : Nat → List (Nat × Nat)
  | 0 => ns
  | k + 1 => ((Hs k).next, (Hs (k + 1)).next) :: nsFrom ns Hs k
noncomputable def rgs (Hs : Nat → AH) (k : Nat) (x : IOper) : List (Nat × Nat) := rgAt (nsFrom [] Hs k) x.hide

theorem nsFrom_nth (Hs : Nat → AH) {j : Nat} : ∀ {k : Nat}, j < k → nth (nsFrom [] Hs k) (k - 1 - j) = some ((Hs j).next, (Hs (j + 1)).next)
  | 0, h => absurd h (Nat.not_lt_zero _)
  | k + 1, h => by
    by_cases hj : j = k
    · subst hj; rw [show j + 1 - 1 - j = 0 by omega]; rfl
    · have := nsFrom_nth Hs (j := j) (k := k) (by omega)
      rw [show k + 1 - 1 - j = (k - 1 - j) + 1 by omega]
      exact this
theorem rgAt_mem {ns : List (Nat × Nat)} {d : Nat} {p : Nat × Nat} (h : nth ns d = some p) : ∀ {ds : List Nat}, d ∈ ds → p ∈ rgAt ns ds
  | [], hd => by cases hd
  | e :: ds, hd => by
    show p ∈ Option.rec (motive := fun _ => List (Nat × Nat)) (rgAt ns ds) (fun p => p :: rgAt ns ds) (nth ns e)
    rcases List.mem_cons.1 hd with g | g
    · subst g; rw [h]; exact List.mem_cons_self
    · have := rgAt_mem h g
      cases nth ns e with
      | none => exact this
      | some q => exact List.mem_cons_of_mem _ this
theorem inRg_of {b : Nat} {p : Nat × Nat} : ∀ {rg : List (Nat × Nat)}, p ∈ rg → p.1 ≤ b → b < p.2 → inRg b rg = true
  | [], h, _, _ => by cases h
  | q :: rg, h, h1, h2 => by
    show ifb (Nat.ble q.1 b) (ifb (Nat.ble (Nat.succ b) q.2) true (inRg b rg)) (inRg b rg) = true
    rcases List.mem_cons.1 h with g | g
    · subst g
      rw [show Nat.ble p.1 b = true from Nat.ble_eq_true_of_le h1, show Nat.ble (Nat.succ b) p.2 = true from Nat.ble_eq_true_of_le h2]; rfl
    · rw [inRg_of g h1 h2]; simp only [ifb_eq]; split <;> (try split) <;> rfl

/-- The states through which the order of the text goes. -/
structure Line (rec : Task → Option Res) (X : Opd → List Nat) (os : List IOper) (H₀ : AH) (T : Nat → Fr AV) (Hs : Nat → AH) : Prop where
  h0 : Hs 0 = H₀
  step : ∀ (k : Nat) (x : IOper), os[k]? = some x → ∃ R, evOp rec x (T k) (fence (rgs Hs k x) (xsOf X x) x.flag (Hs k)) = some (T (k + 1), R) ∧ Hs (k + 1) = unfence (Hs k) R

theorem line_of {rec : Task → Option Res} {X : Opd → List Nat} : ∀ {os : List IOper} {ns : List (Nat × Nat)} {τ : Fr AV} {H : AH} {p : Fr AV × AH}, evDraw rec X os ns τ H = some p →
    ∃ (T : Nat → Fr AV) (Hs : Nat → AH), T 0 = τ ∧ Hs 0 = H ∧ (∀ (k : Nat) (x : IOper), os[k]? = some x → ∃ R, evOp rec x (T k) (fence (rgAt (nsFrom ns Hs k) x.hide) (xsOf X x) x.flag (Hs k)) = some (T (k + 1), R) ∧ Hs (k + 1) = unfence (Hs k) R) ∧ T os.length = p.1 ∧ Hs os.length = p.2
  | [], ns, τ, H, p, h => by cases h; exact ⟨fun _ => τ, fun _ => H, rfl, rfl, fun k x hx => by simp at hx, rfl, rfl⟩
  | o :: os, ns, τ, H, p, h => by
    rw [evDraw_cons] at h
    obtain ⟨q, h1, h2⟩ := obind_eq_some.1 h
    obtain ⟨T, Hs, e1, e2, e3, e4, e5⟩ := line_of h2
    refine ⟨fun k => match k with | 0 => τ | k + 1 => T k, fun k => match k with | 0 => H | k + 1 => Hs k, rfl, rfl, fun k x hx => ?_, e4, e5⟩
    cases k with
    | zero =>
      simp at hx; subst hx
      refine ⟨q.2, ?_, e2⟩
      show evOp rec o τ _ = some (T 0, q.2)
      rw [e1]; exact h1
    | succ k =>
      have sh : ∀ k, nsFrom ns (fun k => match k with | 0 => H | k + 1 => Hs k) (k + 1) = nsFrom ((H.next, q.2.next) :: ns) Hs k := by
        intro k
        induction k with
        | zero =>
          show (H.next, (Hs 0).next) :: ns = _
          rw [e2]; simp [nsFrom]
        | succ k ih =>
          show ((Hs k).next, (Hs (k + 1)).next) :: nsFrom ns _ (k + 1) = _
          rw [ih]; rfl
      rw [sh k]
      exact e3 k x (by simpa using hx)

section
variable {rec : Task → Option Res} {X : Opd → List Nat} {os : List IOper} {H₀ : AH} {T : Nat → Fr AV} {Hs : Nat → AH}

theorem Line.ae (hL : Line rec X os H₀ T Hs) (hr : RecAE rec) {k : Nat} {x : IOper} (hx : os[k]? = some x) : AE (Hs k) (Hs (k + 1)) := by
  obtain ⟨R, h1, h2⟩ := hL.step k x hx
  rw [h2]; exact (evOp_AE hr h1).fence

theorem Line.aeTo (hL : Line rec X os H₀ T Hs) (hr : RecAE rec) : ∀ {k : Nat}, k ≤ os.length → AE H₀ (Hs k)
  | 0, _ => by rw [hL.h0]; exact AE.refl _
  | k + 1, hk => (hL.aeTo hr (Nat.le_of_succ_le hk)).trans (hL.ae hr (x := os[k]) (by simp))

theorem Line.mono (hL : Line rec X os H₀ T Hs) (hr : RecAE rec) {i : Nat} : ∀ {k : Nat}, i ≤ k → k ≤ os.length → (Hs i).next ≤ (Hs k).next
  | 0, h, _ => by rw [Nat.le_zero.1 h]; exact Nat.le_refl _
  | k + 1, h, hk => by
    by_cases hi : i = k + 1
    · rw [hi]; exact Nat.le_refl _
    · exact Nat.le_trans (hL.mono hr (k := k) (by omega) (by omega)) (hL.ae hr (x := os[k]) (by simp)).next

/-- Which blocks the k-th operation may lay or change. -/
def touch (X : Opd → List Nat) (os : List IOper) (_ : AH) (Hs : Nat → AH) (b k : Nat) : Prop :=
  ((Hs k).next ≤ b ∧ b < (Hs (k + 1)).next) ∨ (b < (Hs k).next ∧ ∃ x, os[k]? = some x ∧ (fence (rgs Hs k x) (xsOf X x) x.flag (Hs k)).may b = true)

theorem Line.untouched (hL : Line rec X os H₀ T Hs) (hr : RecAE rec) (ht : H₀.topOk) {b k : Nat} (hk : k < os.length) (hn : ¬ touch X os H₀ Hs b k) : (Hs (k + 1)).blk.get b = (Hs k).blk.get b := by
  have hx : os[k]? = some os[k] := by simp [hk]
  obtain ⟨R, h1, h2⟩ := hL.step k _ hx
  have hae := evOp_AE hr h1
  have hu : (unfence (Hs k) R).blk = R.blk := by cases Hs k; cases R; rfl
  have htk := (hL.aeTo hr (Nat.le_of_lt hk)).top ht
  have htk1 := (hL.aeTo hr (k := k + 1) hk).top ht
  by_cases hb : b < (Hs k).next
  · have hm : (fence (rgs Hs k os[k]) (xsOf X os[k]) os[k].flag (Hs k)).may b = false := by
      rw [← Bool.not_eq_true]; exact fun h => hn (.inr ⟨hb, _, hx, h⟩)
    have := hae.keep (fun c hc => by rw [fence_blk]; exact htk c (by simpa using hc)) b (by simpa using hb) (.inl hm)
    rw [h2, hu, this, fence_blk]
  · have : ¬ b < (Hs (k + 1)).next := fun h => hn (.inl ⟨by omega, h⟩)
    rw [htk b (by omega), htk1 b (by omega)]

/-- A block's contents after the operations of S. -/
noncomputable def GS (X : Opd → List Nat) (os : List IOper) (H₀ : AH) (Hs : Nat → AH) (S : Nat → Prop) (b : Nat) : Option ABlk := mix S (touch X os H₀ Hs b) (fun k => (Hs k).blk.get b) os.length

def dstIs (os : List IOper) (p : Pth) (k : Nat) : Prop := ∃ x, os[k]? = some x ∧ x.dst = some p

/-- A slot's value after the operations of S. -/
noncomputable def DS (os : List IOper) (T : Nat → Fr AV) (S : Nat → Prop) (p : Pth) : Option AV := mix S (dstIs os p) (fun k => (T k).get p) os.length

theorem Line.slot (hL : Line rec X os H₀ T Hs) {p : Pth} {k : Nat} (hk : k < os.length) (hn : ¬ dstIs os p k) : (T (k + 1)).get p = (T k).get p := by
  have hx : os[k]? = some os[k] := by simp [hk]
  obtain ⟨R, h1, _⟩ := hL.step k _ hx
  obtain ⟨v, h2, _⟩ := evOp_congr (τ' := T k) (fun _ _ => rfl) h1
  have h2 : T (k + 1) = putD (T k) os[k].dst v := h2
  rw [h2]
  cases hd : os[k].dst with
  | none => rfl
  | some q =>
    show ((T k).put q v).get p = _
    rw [Fr.get_put, if_neg]
    intro e; subst e; exact hn ⟨_, hx, hd⟩

/-- The operations that have been made: with each all that must come before it. -/
structure Down (os : List IOper) (S : Nat → Prop) : Prop where
  lt : ∀ k, S k → k < os.length
  down : ∀ i k, S i → PredOf os i k → S k

section
variable {tt : TT} {N : Nat} {ops : Array Oper} (st : Static tt N os ops) (hL : Line rec X os H₀ T Hs) (hr : RecAE rec) {S : Nat → Prop} (hS : Down os S) {i : Nat} {x : IOper} (hx : os[i]? = some x) (hi : ¬ S i) (hpre : ∀ k, PredOf os i k → S k)
include st hx hi hpre

theorem free_pair (hS : Down os S) {k : Nat} {y : IOper} (hy : os[k]? = some y) (hki : k ≠ i) (hk : (k < i ∧ ¬ S k) ∨ (i < k ∧ S k)) : ¬ PredOf os i k ∧ ¬ PredOf os k i ∧ Compat x y := by
  have h1 : ¬ PredOf os i k := fun h => by
    rcases hk with ⟨_, hk⟩ | ⟨hk, _⟩
    · exact hk (hpre k h)
    · exact absurd (h.lt st) (by omega)
  have h2 : ¬ PredOf os k i := fun h => by
    rcases hk with ⟨hk, _⟩ | ⟨_, hk⟩
    · exact absurd (h.lt st) (by omega)
    · exact hi (hS.down k i hk h)
  exact ⟨h1, h2, st.cp i k x y hx hy (Ne.symm hki) h1 h2⟩

theorem slot_at (hL : Line rec X os H₀ T Hs) (hS : Down os S) {p : Pth} (hp : p ∈ x.reads) : DS os T S p = (T i).get p := by
  have hil : i < os.length := (List.getElem?_eq_some_iff.1 hx).1
  refine mix_at (Nat.le_of_lt hil) (fun k hk hd => ?_) (fun k hk hn => hL.slot (by omega) hn) fun k h1 h2 hs hd => ?_
  · obtain ⟨y, hy, hyp⟩ := hd
    apply Classical.byContradiction; intro hns
    obtain ⟨g1, g2, _⟩ := free_pair st hx hi hpre hS hy (by omega) (.inl ⟨hk, hns⟩)
    rcases st.rd i k x y p hx hy (by omega) hyp hp with g | g
    · exact g1 g
    · exact g2 g
  · obtain ⟨y, hy, hyp⟩ := hd
    by_cases hki : k = i
    · subst hki; exact hi hs
    · obtain ⟨g1, g2, _⟩ := free_pair st hx hi hpre hS hy hki (.inr ⟨by omega, hs⟩)
      rcases st.rd i k x y p hx hy (Ne.symm hki) hyp hp with g | g
      · exact g1 g
      · exact g2 g

/-- What the i-th operation may see is as it is in the order of the text. -/
theorem seen_at (hL : Line rec X os H₀ T Hs) (hr : RecAE rec) (ht : H₀.topOk) (hS : Down os S) {b : Nat} {z : ABlk} (hv : (fence (rgs Hs i x) (xsOf X x) x.flag (Hs i)).view b = some z)
    (hdom : ∀ k, k < os.length → (Hs k).next ≤ b → b < (Hs (k + 1)).next → S k) : GS X os H₀ Hs S b = some z ∧ (Hs i).view b = some z := by
  have hil : i < os.length := (List.getElem?_eq_some_iff.1 hx).1
  have hti := (hL.aeTo hr (Nat.le_of_lt hil)).top ht
  obtain ⟨v1, v2, v3⟩ := fence_view hti hv
  have hblk := view_blk v1
  have hbi : b < (Hs i).next := by
    apply Classical.byContradiction; intro hn
    have := hti b (by omega); rw [hblk] at this; cases this
  have quiet : ∀ (k : Nat) (y : IOper), os[k]? = some y → Compat x y → b < (Hs k).next → (fence (rgs Hs k y) (xsOf X y) y.flag (Hs k)).may b = true → False := by
    intro k y hy ⟨c1, c2, c3, c4⟩ hbk hm
    obtain ⟨hm, _⟩ := fence_may hm hbk
    rcases hm with h0 | ⟨h3, hbb, hmem⟩
    · exact v2 (c2 h0).1
    · rcases c4 h3 with g | ⟨g, gx⟩
      · exact v2 g
      · have hmem' : b ∈ xsOf X x := by
          unfold xsOf at hmem ⊢
          obtain ⟨z, hz, hzb⟩ := List.mem_flatMap.1 hmem
          exact List.mem_flatMap.2 ⟨z, gx z hz, hzb⟩
        exact v3 g hmem'
  refine ⟨?_, v1⟩
  rw [← hblk]
  refine mix_at (f := fun k => (Hs k).blk.get b) (Nat.le_of_lt hil) (fun k hk htk => ?_) (fun k hk hn => hL.untouched hr ht (by omega) hn) fun k h1 h2 hs htk => ?_
  · apply Classical.byContradiction; intro hns
    rcases htk with ⟨t1, t2⟩ | ⟨t1, y, hy, hm⟩
    · exact hns (hdom k (by omega) t1 t2)
    · obtain ⟨_, _, hc⟩ := free_pair st hx hi hpre hS hy (by omega) (.inl ⟨hk, hns⟩)
      exact quiet k y hy hc t1 hm
  · have hki : k ≠ i := by rintro rfl; exact hi hs
    rcases htk with ⟨t1, t2⟩ | ⟨t1, y, hy, hm⟩
    · have := hL.mono hr (i := i) (k := k) h1 (by omega); omega
    · obtain ⟨_, _, hc⟩ := free_pair st hx hi hpre hS hy hki (.inr ⟨by omega, hs⟩)
      exact quiet k y hy hc t1 hm

/-- What the i-th operation lays or changes is not changed by a later one that has been made. -/
theorem touched_at (hL : Line rec X os H₀ T Hs) (hr : RecAE rec) (hS : Down os S) {b : Nat} (htb : touch X os H₀ Hs b i) : GS X os H₀ Hs (fun k => S k ∨ k = i) b = (Hs (i + 1)).blk.get b := by
  have hil : i < os.length := (List.getElem?_eq_some_iff.1 hx).1
  refine mix_last (f := fun k => (Hs k).blk.get b) hil (.inr rfl) htb fun k h1 h2 hs htk => ?_
  have hs : S k := hs.resolve_right (by omega)
  have hy : os[k]? = some os[k] := by simp [h2]
  obtain ⟨g1', g2', c1, c2, c3, c4⟩ := free_pair st hx hi hpre hS hy (by omega) (.inr ⟨h1, hs⟩)
  have m1 := hL.mono hr (i := i + 1) (k := k) h1 (by omega)
  have m2 := hL.mono hr (i := i) (k := i + 1) (by omega) (by omega)
  have noNew : ∀ {k : Nat} {y : IOper}, os[k]? = some y → quietOp y.op = true → (Hs (k + 1)).next = (Hs k).next := fun {k y} hy hq => by
    obtain ⟨R, e1, e2⟩ := hL.step k y hy
    have := quiet_next hq e1
    have this : R = _ := this
    rw [e2, this]; simp
  have noMay : ∀ {k : Nat} {y : IOper} {b : Nat}, y.flag = 2 → b < (Hs k).next → (fence (rgs Hs k y) (xsOf X y) y.flag (Hs k)).may b = true → False := fun {k y b} h2 hb hm => by
    rcases (fence_may hm hb).1 with g | ⟨g, _⟩ <;> omega
  rcases htb with ⟨t1, t2⟩ | ⟨t1, x', hx', hm⟩
  · rcases htk with ⟨s1, s2⟩ | ⟨s1, y, hy', hm'⟩
    · omega
    · rw [hy] at hy'; cases hy'
      obtain ⟨hm', _⟩ := fence_may hm' s1
      rcases hm' with h0 | ⟨h3, hbb, _⟩
      · have := noNew hx (c2 h0).2; omega
      · rcases st.hd k i os[k] x hy hx h1 g2' g1' h3 with g | g
        · have := noNew hx g; omega
        · have := inRg_of (rgAt_mem (nsFrom_nth Hs h1) g) t1 t2
          have hbb : inRg b (rgAt (nsFrom [] Hs k) os[k].hide) = false := hbb
          rw [this] at hbb; cases hbb
  · rw [hx] at hx'; cases hx'
    have hm₀ := hm
    obtain ⟨hm, _⟩ := fence_may hm t1
    rcases hm with h0 | ⟨h3, hbb, _⟩
    · rcases htk with ⟨s1, s2⟩ | ⟨s1, y, hy', hm'⟩
      · omega
      · rw [hy] at hy'; cases hy'
        exact noMay (c1 h0).1 s1 hm'
    · rcases htk with ⟨s1, s2⟩ | ⟨s1, y, hy', hm'⟩
      · omega
      · rw [hy] at hy'; cases hy'
        obtain ⟨hm', _⟩ := fence_may hm' s1
        rcases hm' with h0 | ⟨h3', _, _⟩
        · have := (c2 h0).1; omega
        · rcases c3 h3 with g | ⟨g, _⟩ <;> omega

omit st hx hi hpre in
theorem other_at {b : Nat} (hn : ¬ touch X os H₀ Hs b i) : GS X os H₀ Hs (fun k => S k ∨ k = i) b = GS X os H₀ Hs S b := by
  refine mix_congr fun k _ ht => ⟨fun h => h.resolve_right fun e => hn (e ▸ ht), .inl⟩
end
end
end Go.Ai
