/- The check of code, and what it gives of a region. -/
import Derived.Test.YtebmoofioikenaaGreatDoorAi18
namespace Go.Ai
open Go

/-! ### The check of a region that draws -/
def bitsOf (acc : List Nat) (l : List Nat) : Nat := l.foldr (fun m r => 2 ^ m ||| ((acc[m]?).getD 0 ||| r)) 0

def predsGo : List IOper → List Nat → List Nat
  | [], acc => acc
  | x :: rest, acc => predsGo rest (acc ++ [bitsOf acc x.after])

theorem bitsOf_sound {os : List IOper} {acc : List Nat} {i : Nat} {x : IOper} (hx : os[i]? = some x) (hacc : ∀ m b k, acc[m]? = some b → b.testBit k = true → PredOf os m k) : ∀ (l : List Nat), (∀ m ∈ l, m ∈ x.after) → ∀ k, (bitsOf acc l).testBit k = true → PredOf os i k
  | [], _, k, h => by simp [bitsOf] at h
  | m :: l, hl, k, h => by
    have e : bitsOf acc (m :: l) = 2 ^ m ||| ((acc[m]?).getD 0 ||| bitsOf acc l) := rfl
    rw [e, Nat.testBit_or, Nat.testBit_or, Bool.or_eq_true, Bool.or_eq_true] at h
    rcases h with h | h | h
    · rw [Nat.testBit_two_pow] at h
      have : m = k := by simpa using h
      subst this
      exact .base hx (hl m (by simp))
    · cases ha : acc[m]? with
      | none => rw [ha] at h; simp at h
      | some b => rw [ha] at h; exact .step hx (hl m (by simp)) (hacc m b k ha h)
    · exact bitsOf_sound hx hacc l (fun m hm => hl m (by simp [hm])) k h

theorem predsGo_sound {os : List IOper} : ∀ (rest : List IOper) (acc : List Nat), (∃ done, os = done ++ rest ∧ done.length = acc.length) → (∀ m b k, acc[m]? = some b → b.testBit k = true → PredOf os m k) →
    ∀ m b k, (predsGo rest acc)[m]? = some b → b.testBit k = true → PredOf os m k
  | [], acc, _, h => h
  | x :: rest, acc, ⟨done, e1, e2⟩, h => by
    refine predsGo_sound rest _ ⟨done ++ [x], by simp [e1], by simp [e2]⟩ fun m b k hm hk => ?_
    have hx : os[acc.length]? = some x := by rw [e1, ← e2]; simp
    rw [List.getElem?_append] at hm
    split at hm
    · exact h m b k hm hk
    · rename_i hlt
      have hm' : m - acc.length = 0 := by
        apply Classical.byContradiction; intro hne
        rw [List.getElem?_eq_none (by simp; omega)] at hm; cases hm
      rw [hm'] at hm; simp at hm; subst hm
      have : m = acc.length := by omega
      subst this
      exact bitsOf_sound hx h x.after (fun _ h => h) k hk

def preds (os : List IOper) : List Nat := predsGo os []
def isPred (ps : List Nat) (i k : Nat) : Bool := ((ps[i]?).getD 0).testBit k
theorem isPred_sound {os : List IOper} {i k : Nat} (h : isPred (preds os) i k = true) : PredOf os i k := by
  unfold isPred at h
  cases hb : (preds os)[i]? with
  | none => rw [hb] at h; simp at h
  | some b => rw [hb] at h; exact predsGo_sound os [] ⟨[], rfl, rfl⟩ (fun m b k hm => by simp at hm) i b k hb h

/-- Which operation gives a slot; none if two do. -/
noncomputable def dstsGo : List IOper → Nat → Fr Nat → Option (Fr Nat)
  | [], _, t => some t
  | x :: rest, i, t => match x.dst with
    | none => dstsGo rest (i + 1) t
    | some p => match t.get p with
      | none => dstsGo rest (i + 1) (t.put p i)
      | some _ => none

theorem dstsGo_sound {os : List IOper} : ∀ (rest : List IOper) (i : Nat) (t u : Fr Nat), (∃ done, os = done ++ rest ∧ done.length = i) → (∀ j x p, j < i → os[j]? = some x → x.dst = some p → t.get p = some j) → dstsGo rest i t = some u →
    ∀ j x p, os[j]? = some x → x.dst = some p → u.get p = some j
  | [], i, t, u, ⟨done, e1, e2⟩, h, hu => by
    cases hu
    intro j x p hx hp
    exact h j x p (by have := (List.getElem?_eq_some_iff.1 hx).1; simp [e1] at this; omega) hx hp
  | y :: rest, i, t, u, ⟨done, e1, e2⟩, h, hu => by
    have hy : os[i]? = some y := by rw [e1, ← e2]; simp
    unfold dstsGo at hu
    cases hd : y.dst with
    | none =>
      rw [hd] at hu
      refine dstsGo_sound rest (i + 1) t u ⟨done ++ [y], by simp [e1], by simp [e2]⟩ (fun j x p hj hx hp => ?_) hu
      by_cases hji : j = i
      · subst hji; rw [hy] at hx; cases hx; rw [hd] at hp; cases hp
      · exact h j x p (by omega) hx hp
    | some q =>
      rw [hd] at hu
      simp only at hu
      cases hg : t.get q with
      | some _ => rw [hg] at hu; cases hu
      | none =>
        rw [hg] at hu
        refine dstsGo_sound rest (i + 1) (t.put q i) u ⟨done ++ [y], by simp [e1], by simp [e2]⟩ (fun j x p hj hx hp => ?_) hu
        rw [Fr.get_put]
        by_cases hji : j = i
        · subst hji; rw [hy] at hx; cases hx; rw [hd] at hp; cases hp; simp
        · have := h j x p (by omega) hx hp
          rw [if_neg (by rintro rfl; rw [hg] at this; cases this)]; exact this

def allI {α : Type} (f : Nat → α → Bool) : Nat → List α → Bool
  | _, [] => true
  | i, a :: l => f i a && allI f (i + 1) l
theorem allI_sound {α : Type} {f : Nat → α → Bool} : ∀ {l : List α} {n : Nat}, allI f n l = true → ∀ i a, l[i]? = some a → f (n + i) a = true
  | [], _, _, i, a, h => by simp at h
  | b :: l, n, h, 0, a, e => by simp at e; subst e; simp [allI] at h; exact h.1
  | b :: l, n, h, i + 1, a, e => by
    simp [allI] at h
    have := allI_sound h.2 i a (by simpa using e)
    rw [← this]; congr 1; omega

def opdEq : Opd → Opd → Bool
  | .t p, .t q => decide (p = q)
  | .g n, .g m => Nat.beq n m
  | _, _ => false
theorem opdEq_sound {x y : Opd} (h : opdEq x y = true) : x = y := by
  cases x <;> cases y <;> simp [opdEq] at h
  · subst h; rfl
  · rename_i n m; rw [(by simpa using h : n = m)]
def subXs (a b : List Opd) : Bool := a.all fun x => b.any fun y => opdEq x y
theorem subXs_sound {a b : List Opd} (h : subXs a b = true) : ∀ z ∈ a, z ∈ b := by
  intro z hz
  have := List.all_eq_true.1 h z hz
  obtain ⟨y, h1, h2⟩ := List.any_eq_true.1 this
  rw [opdEq_sound h2]; exact h1

/-- A writer of some blocks does not see what an earlier operation lays that may be made behind it. -/
def hOk (i j : Nat) (x y : IOper) : Bool := !Nat.beq x.flag 3 || (!Nat.blt j i || (quietOp y.op || x.hide.contains (i - 1 - j)))
/-- A writer, held against another operation that may be made before or after it. -/
def wOk (x y : IOper) : Bool := (Nat.beq x.flag 0 && (Nat.beq y.flag 2 && quietOp y.op)) || (Nat.beq x.flag 3 && (Nat.beq y.flag 2 || (Nat.beq y.flag 4 && subXs x.xs y.xs)))

section
variable (tt : TT) (N : Nat)
def ckOps (ops : Array Oper) : List IOper → List Oper → Bool
  | [], [] => true
  | x :: xs, o :: os => (ckOper tt N ops x o).isSome && ckOps ops xs os
  | _, _ => false

def ckEdges (i : Nat) (x : IOper) (o : Oper) : Bool :=
  x.after.all (fun k => Nat.blt k i && o.after.toList.any fun e => Region.binds .any e && Nat.beq e.on k) && o.after.toList.all fun e => !Region.binds .any e || Nat.blt e.on i

def ckEdgesL : Nat → List IOper → List Oper → Bool
  | _, [], [] => true
  | i, x :: xs, o :: os => ckEdges i x o && ckEdgesL (i + 1) xs os
  | _, _, _ => false

noncomputable def ckDraw (os : List IOper) (ops : Array Oper) : Bool :=
  ckOps tt N ops os ops.toList && (ckEdgesL 0 os ops.toList && (match dstsGo os 0 .nil with
    | none => false
    | some t => allI (fun i x => x.reads.all (fun p => match t.get p with | none => true | some j => Nat.beq i j || (isPred (preds os) i j || isPred (preds os) j i)) &&
        (if Nat.beq x.flag 0 || Nat.beq x.flag 3 then allI (fun j y => Nat.beq i j || (isPred (preds os) i j || (isPred (preds os) j i || (wOk x y && hOk i j x y)))) 0 os else true)) 0 os))
end

theorem ckOps_sound {tt : TT} {N : Nat} {ops : Array Oper} : ∀ {xs : List IOper} {os : List Oper}, ckOps tt N ops xs os = true → xs.length = os.length ∧ ∀ (i : Nat) (x : IOper) (o : Oper), xs[i]? = some x → os[i]? = some o → ckOper tt N ops x o = some ()
  | [], [], _ => ⟨rfl, fun i x o h => by simp at h⟩
  | x :: xs, o :: os, h => by
    simp only [ckOps, Bool.and_eq_true] at h
    obtain ⟨h1, h2⟩ := h
    obtain ⟨g1, g2⟩ := ckOps_sound h2
    refine ⟨by simp [g1], fun i y p hy hp => ?_⟩
    cases i with
    | zero =>
      simp at hy hp; subst hy hp
      obtain ⟨u, hu⟩ := Option.isSome_iff_exists.1 h1
      exact hu
    | succ i => exact g2 i y p (by simpa using hy) (by simpa using hp)
  | [], _ :: _, h => by simp [ckOps] at h
  | _ :: _, [], h => by simp [ckOps] at h

theorem ckEdgesL_sound : ∀ {n : Nat} {xs : List IOper} {os : List Oper}, ckEdgesL n xs os = true → ∀ (i : Nat) (o : Oper), os[i]? = some o → ∃ x : IOper, xs[i]? = some x ∧ ckEdges (n + i) x o = true
  | n, [], [], _, i, o, h => by simp at h
  | n, x :: xs, o :: os, h, i, p, hp => by
    simp only [ckEdgesL, Bool.and_eq_true] at h
    cases i with
    | zero => simp at hp; subst hp; exact ⟨x, rfl, h.1⟩
    | succ i =>
      obtain ⟨y, h1, h2⟩ := ckEdgesL_sound h.2 i p (by simpa using hp)
      exact ⟨y, by simpa using h1, by rw [← h2]; congr 1; omega⟩
  | _, [], _ :: _, h, _, _, _ => by simp [ckEdgesL] at h
  | _, _ :: _, [], h, _, _, _ => by simp [ckEdgesL] at h

theorem ckDraw_sound {tt : TT} {N : Nat} {os : List IOper} {ops : Array Oper} (h : ckDraw tt N os ops = true) : Static tt N os ops := by
  unfold ckDraw at h
  simp only [Bool.and_eq_true] at h
  obtain ⟨h1, h2, h3⟩ := h
  obtain ⟨g1, g2⟩ := ckOps_sound h1
  split at h3
  · cases h3
  rename_i t ht
  have hd := dstsGo_sound (os := os) os 0 .nil t ⟨[], rfl, rfl⟩ (fun j x p hj => by omega) ht
  have hall := allI_sound h3
  have cpW : ∀ (i j : Nat) (x y : IOper), os[i]? = some x → os[j]? = some y → i ≠ j → ¬ PredOf os i j → ¬ PredOf os j i → (x.flag = 0 ∨ x.flag = 3) → (x.flag = 0 ∧ y.flag = 2 ∧ quietOp y.op = true) ∨ (x.flag = 3 ∧ (y.flag = 2 ∨ (y.flag = 4 ∧ ∀ z ∈ x.xs, z ∈ y.xs))) := by
    intro i j x y hx hy hij n1 n2 hf
    have hi := hall i x hx
    simp only [Nat.zero_add, Bool.and_eq_true] at hi
    have hi := hi.2
    rw [if_pos (by rcases hf with hf | hf <;> simp [hf])] at hi
    have hj := allI_sound hi j y hy
    simp only [Nat.zero_add, Bool.or_eq_true] at hj
    rcases hj with q | q | q | q
    · exact absurd (by simpa using q) hij
    · exact absurd (isPred_sound q) n1
    · exact absurd (isPred_sound q) n2
    · simp only [Bool.and_eq_true] at q
      have q := q.1
      unfold wOk at q
      simp only [Bool.and_eq_true, Bool.or_eq_true] at q
      rcases q with q | q
      · exact .inl ⟨by simpa using q.1, by simpa using q.2.1, q.2.2⟩
      · exact .inr ⟨by simpa using q.1, q.2.imp (fun q => by simpa using q) fun q => ⟨by simpa using q.1, subXs_sound q.2⟩⟩
  have hdW : ∀ (i j : Nat) (x y : IOper), os[i]? = some x → os[j]? = some y → j < i → ¬ PredOf os i j → ¬ PredOf os j i → x.flag = 3 → quietOp y.op = true ∨ i - 1 - j ∈ x.hide := by
    intro i j x y hx hy hij n1 n2 hf
    have hi := hall i x hx
    simp only [Nat.zero_add, Bool.and_eq_true] at hi
    have hi := hi.2
    rw [if_pos (by simp [hf])] at hi
    have hj := allI_sound hi j y hy
    simp only [Nat.zero_add, Bool.or_eq_true] at hj
    rcases hj with q | q | q | q
    · have : i = j := by simpa using q
      omega
    · exact absurd (isPred_sound q) n1
    · exact absurd (isPred_sound q) n2
    · simp only [Bool.and_eq_true] at q
      have q := q.2
      unfold hOk at q
      simp only [Bool.or_eq_true] at q
      rcases q with q | q | q | q
      · simp [hf] at q
      · have : Nat.blt j i = true := Nat.ble_eq_true_of_le hij
        rw [this] at q; cases q
      · exact .inl q
      · exact .inr (by simpa using q)
  refine ⟨by simpa using g1, fun i x o hx ho => g2 i x o hx (by simpa using ho), fun i x o hx ho k hk => ?_, fun i o ho e he hb => ?_, fun i j x y p hx hy hij hp hr => ?_, fun i j x y p hx hy hij hp hq => ?_, fun i j x y hx hy hij n1 n2 => ?_, ?hdd⟩
  case hdd => exact hdW
  · obtain ⟨x', q1, q2⟩ := ckEdgesL_sound h2 i o (by simpa using ho)
    rw [hx] at q1; cases q1
    unfold ckEdges at q2
    simp only [Bool.and_eq_true] at q2
    have := List.all_eq_true.1 q2.1 k hk
    simp only [Bool.and_eq_true, Nat.zero_add] at this
    obtain ⟨e, he, hb⟩ := List.any_eq_true.1 this.2
    simp only [Bool.and_eq_true] at hb
    exact ⟨by have := Nat.le_of_ble_eq_true this.1; omega, e, he, hb.1, by simpa using hb.2⟩
  · obtain ⟨x', q1, q2⟩ := ckEdgesL_sound h2 i o (by simpa using ho)
    unfold ckEdges at q2
    simp only [Bool.and_eq_true] at q2
    have := List.all_eq_true.1 q2.2 e he
    rw [hb] at this
    simp only [Bool.not_true, Bool.false_or, Nat.zero_add] at this
    have := Nat.le_of_ble_eq_true this; omega
  · have hi := hall i x hx
    simp only [Nat.zero_add, Bool.and_eq_true] at hi
    have := List.all_eq_true.1 hi.1 p hr
    rw [hd j y p hy hp] at this
    simp only [Bool.or_eq_true] at this
    rcases this with q | q | q
    · exact absurd (by simpa using q) hij
    · exact .inl (isPred_sound q)
    · exact .inr (isPred_sound q)
  · have a1 := hd i x p hx hp
    have a2 := hd j y p hy hq
    rw [a1] at a2; cases a2; exact hij rfl
  · refine ⟨fun h0 => ?_, fun h0 => ?_, fun h3 => ?_, fun h3 => ?_⟩
    · rcases cpW i j x y hx hy hij n1 n2 (.inl h0) with g | g
      · exact g.2
      · omega
    · rcases cpW j i y x hy hx (Ne.symm hij) n2 n1 (.inl h0) with g | g
      · exact g.2
      · omega
    · rcases cpW i j x y hx hy hij n1 n2 (.inr h3) with g | g
      · omega
      · exact g.2
    · rcases cpW j i y x hy hx (Ne.symm hij) n2 n1 (.inr h3) with g | g
      · omega
      · exact g.2

/-! ### The check of code -/
section
variable (tt : TT)
noncomputable def ckC (nest : Bool) (N : Nat) : ICode → Code → Bool
  | .skip, .skip => true
  | .skip, .label _ => true
  | .region os, .region _ ops false => ckOps tt N ops os ops.toList
  | .draw os _, .region _ ops true => ckDraw tt N os ops
  | .seq a b, .seq x y => ckC nest N a x && ckC nest N b y
  | .cond c a b, .cond d x y => ckO c d && (ckC nest N a x && ckC nest N b y)
  | .block i c, .block j x => Nat.beq i j && ckC nest N c x
  | .loop c, .loop x => ckC nest N c x
  | .rangeFunc f ps asg body, .rangeFunc g qs x y => !nest && (ckO f g && (decide (qs.toList = ps.map Pth.num) && (ps.all (fun p => Nat.blt p.num N) && (ckC true N asg x && ckC true N body y))))
  | .exit i, .exit j => Nat.beq i j
  | .ret, .ret => true
  | .stuck, _ => true
  | .scope c, .scope x => ckC nest N c x
  | _, _ => false

/-- What is asked of the code of a loop's record. -/
def ckRel : CRel := fun N c x => ckC tt true N c x = true

def ckRes : IRes → ResultVar → Option Unit
  | .tmp p, .tmp t => yes? (Nat.beq p.num t)
  | .cell p none, .cell a t => onT tt t fun s => yes? (Nat.beq p.num a && !isAggD s.desc)
  | .cell p (some n), .cell a t => onT tt t fun s => yes? (Nat.beq p.num a && (isAggD s.desc && Nat.beq s.size n))
  | _, _ => none
def ckRess : List IRes → List ResultVar → Bool
  | [], [] => true
  | x :: xs, y :: ys => (ckRes tt x y).isSome && ckRess xs ys
  | _, _ => false
noncomputable def ckFn (fn : IFunc) (pf : Func) : Bool :=
  match pf.body with
  | some code => ckC tt false pf.ntmps fn.body code && (ckRess tt fn.results pf.results.toList && !(pf.name == "runtime.NumGoroutine"))
  | none => false
end

/-- The marks among a frame's deferred calls. L: no mark is older. -/
def DF (L : Nat) (μ : Mu) (ds : List Deferred) (w : World) : Prop :=
  L ≤ w.heap.size ∧ ∃ rs : List Nat, ds.map (·.target) = rs.map Target.collected ∧ rs.Nodup ∧ ∀ r ∈ rs, L ≤ r ∧ w.heap[r]? = some (.deferred (some [])) ∧ ∀ b e, μ b = some e → e.c ≠ r

theorem DF.nil {L : Nat} (μ : Mu) (w : World) (hL : L ≤ w.heap.size) : DF L μ [] w := ⟨hL, [], rfl, List.nodup_nil, fun _ h => by cases h⟩
theorem DF.ext {L : Nat} {H H' : AH} {μ μ' : Mu} {w w' : World} (E : Ext H μ w H' μ' w') {ds : List Deferred} (h : DF L μ ds w) : DF L μ' ds w' := by
  obtain ⟨h0, rs, h1, h2, h3⟩ := h
  refine ⟨Nat.le_trans h0 E.size, rs, h1, h2, fun r hr => ?_⟩
  obtain ⟨g0, g1, g2⟩ := h3 r hr
  have hlt : r < w.heap.size := (Array.getElem?_eq_some_iff.1 g1).1
  refine ⟨g0, by rw [E.keep r hlt fun b e hb he => absurd he (g2 b e hb)]; exact g1, fun b e hb he => ?_⟩
  rcases E.new b e hb with g | ⟨g, _, _⟩
  · exact g2 b e g he
  · rcases E.img b e hb g with k | ⟨b₀, e₀, k1, k2, _⟩
    · omega
    · exact g2 b₀ e₀ k1 (k2.trans he)
end Go.Ai
