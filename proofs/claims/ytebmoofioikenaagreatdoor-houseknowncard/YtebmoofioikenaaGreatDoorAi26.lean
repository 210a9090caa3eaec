/- Entries of an oracle: calls whose answer is known. -/
import Derived.Test.YtebmoofioikenaaGreatDoorAi25
namespace Go.Ai
open Go

noncomputable section
mutual
def avEq : AV → AV → Bool
  | .undef, .undef => true
  | .bool a, .bool b => !(xor a b)
  | .int k n, .int k' m => and (beqK k k') (ieqb n m)
  | .str s, .str t => eqB s t
  | .ptr none, .ptr none => true
  | .ptr (some (b, o)), .ptr (some (c, p)) => and (Nat.beq b c) (Nat.beq o p)
  | .sl none l c x z, .sl none l' c' x' z' => and (Nat.beq l l') (and (Nat.beq c c') (and (not (xor x x')) (Nat.beq z z')))
  | .sl (some (b, o)) l c x z, .sl (some (b', o')) l' c' x' z' => and (and (Nat.beq b b') (Nat.beq o o')) (and (Nat.beq l l') (and (Nat.beq c c') (and (not (xor x x')) (Nat.beq z z'))))
  | .map none, .map none => true
  | .map (some a), .map (some b) => Nat.beq a b
  | .fn f a b, .fn f' a' b' => and (Nat.beq f f') (and (avEqs a a') (avEqs b b'))
  | .yld l, .yld l' => Nat.beq l l'
  | .nilFn, .nilFn => true
  | .iface t v, .iface t' v' => and (Nat.beq t t') (avEq v v')
  | .nilIface, .nilIface => true
  | .agg a, .agg b => avEqs a b
  | .tup a, .tup b => avEqs a b
  | _, _ => false
def avEqs : List AV → List AV → Bool
  | [], [] => true
  | a :: x, b :: y => and (avEq a b) (avEqs x y)
  | _, _ => false
end

mutual
theorem avEq_sound : ∀ (a b : AV), avEq a b = true → a = b
  | .undef, b, h => by cases b <;> first | rfl | cases h
  | .bool a, b, h => by
    cases b <;> first | (cases h; done) | skip
    rename_i c; cases a <;> cases c <;> first | rfl | cases h
  | .int k n, b, h => by
    cases b <;> first | (cases h; done) | skip
    simp only [avEq, Bool.and_eq_true] at h
    have h2 := h.2
    rw [ieqb_eq] at h2
    rw [beqK_iff.1 h.1, eq_of_beq h2]
  | .str s, b, h => by
    cases b <;> first | (cases h; done) | skip
    rename_i t
    have h : eqB s t = true := h
    rw [eqB_eq] at h
    rw [(by simpa using h : s = t)]
  | .ptr none, b, h => by
    cases b <;> first | (cases h; done) | skip
    rename_i q; cases q <;> first | rfl | cases h
  | .ptr (some (x, o)), b, h => by
    cases b <;> first | (cases h; done) | skip
    rename_i q
    cases q with
    | none => cases h
    | some q =>
      obtain ⟨c, p⟩ := q
      simp only [avEq, Bool.and_eq_true, Nat.beq_eq] at h
      rw [h.1, h.2]
  | .sl none l c x z, b, h => by
    cases b <;> first | (cases h; done) | skip
    rename_i q l' c' x' z'
    cases q with
    | some q => cases h
    | none =>
      simp only [avEq, Bool.and_eq_true, Nat.beq_eq] at h
      obtain ⟨h1, h2, h3, h4⟩ := h
      subst h1 h2 h4
      cases x <;> cases x' <;> first | rfl | cases h3
  | .sl (some (d, o)) l c x z, b, h => by
    cases b <;> first | (cases h; done) | skip
    rename_i q l' c' x' z'
    cases q with
    | none => cases h
    | some q =>
      obtain ⟨d', o'⟩ := q
      simp only [avEq, Bool.and_eq_true, Nat.beq_eq] at h
      obtain ⟨⟨g1, g2⟩, h1, h2, h3, h4⟩ := h
      subst g1 g2 h1 h2 h4
      cases x <;> cases x' <;> first | rfl | cases h3
  | .map none, b, h => by
    cases b <;> first | (cases h; done) | skip
    rename_i q; cases q <;> first | rfl | cases h
  | .map (some r), b, h => by
    cases b <;> first | (cases h; done) | skip
    rename_i q
    cases q with
    | none => cases h
    | some q => rw [(by simpa [avEq] using h : r = q)]
  | .fn f x y, b, h => by
    cases b <;> first | (cases h; done) | skip
    simp only [avEq, Bool.and_eq_true, Nat.beq_eq] at h
    rw [h.1, avEqs_sound _ _ h.2.1, avEqs_sound _ _ h.2.2]
  | .yld l, b, h => by
    cases b <;> first | (cases h; done) | skip
    rename_i q
    rw [(by simpa [avEq] using h : l = q)]
  | .nilFn, b, h => by cases b <;> first | rfl | cases h
  | .iface t v, b, h => by
    cases b <;> first | (cases h; done) | skip
    simp only [avEq, Bool.and_eq_true, Nat.beq_eq] at h
    rw [h.1, avEq_sound _ _ h.2]
  | .nilIface, b, h => by cases b <;> first | rfl | cases h
  | .agg x, b, h => by
    cases b <;> first | (cases h; done) | skip
    rename_i y
    rw [avEqs_sound x y h]
  | .tup x, b, h => by
    cases b <;> first | (cases h; done) | skip
    rename_i y
    rw [avEqs_sound x y h]
theorem avEqs_sound : ∀ (a b : List AV), avEqs a b = true → a = b
  | [], b, h => by cases b <;> first | rfl | cases h
  | x :: a, b, h => by
    cases b <;> first | (cases h; done) | skip
    simp only [avEqs, Bool.and_eq_true] at h
    rw [avEq_sound _ _ h.1, avEqs_sound _ _ h.2]
end

def esEq : List (AV × AV) → List (AV × AV) → Bool
  | [], [] => true
  | a :: x, b :: y => and (avEq a.1 b.1) (and (avEq a.2 b.2) (esEq x y))
  | _, _ => false
theorem esEq_sound : ∀ (a b : List (AV × AV)), esEq a b = true → a = b
  | [], b, h => by cases b <;> first | rfl | cases h
  | x :: a, b, h => by
    cases b <;> first | (cases h; done) | skip
    rename_i y b
    simp only [esEq, Bool.and_eq_true] at h
    obtain ⟨h1, h2, h3⟩ := h
    obtain ⟨x1, x2⟩ := x
    obtain ⟨y1, y2⟩ := y
    rw [show x1 = y1 from avEq_sound _ _ h1, show x2 = y2 from avEq_sound _ _ h2, esEq_sound _ _ h3]

def blkEq : ABlk → ABlk → Bool
  | .cells r v t, .cells r' v' t' => and (not (xor r r')) (and (Nat.beq t t') (avEqs v v'))
  | .map e, .map e' => esEq e e'
  | _, _ => false
theorem blkEq_sound (a b : ABlk) (h : blkEq a b = true) : a = b := by
  cases a <;> cases b <;> first | (cases h; done) | skip
  · rename_i r v t r' v' t'
    simp only [blkEq, Bool.and_eq_true] at h
    have h2 : t = t' := by simpa using h.2.1
    rw [avEqs_sound _ _ h.2.2, h2]
    have h1 := h.1
    cases r <;> cases r' <;> first | rfl | cases h1
  · rename_i e e'
    rw [esEq_sound e e' h]

structure Ent where
  k : Nat
  lim : Nat := 0
  exc : List Nat := []
  hidAt : Nat := 0
  hid : List Nat := []
  args : List AV
  need : List (Nat × ABlk)
  next : Nat
  v : AV
  upd : List (Nat × Option ABlk)
  next' : Nat

def hasBlk (H : AH) (b : Nat) (x : ABlk) : Bool := Option.rec (motive := fun _ => Bool) false (fun y => blkEq y x) (H.blk.get b)

def lk {α : Type} (b : Nat) (l : List (Nat × α)) : Option α := List.rec (motive := fun _ => Option α) none (fun p _ ih => ifb (Nat.beq p.1 b) (some p.2) ih) l
theorem lk_cons {α : Type} (b : Nat) (p : Nat × α) (l : List (Nat × α)) : lk b (p :: l) = if p.1 = b then some p.2 else lk b l := by
  show ifb (Nat.beq p.1 b) (some p.2) (lk b l) = _
  rw [ifb_eq]; simp
theorem lk_mem {α : Type} {b : Nat} : ∀ {l : List (Nat × α)} {x : α}, lk b l = some x → (b, x) ∈ l
  | [], _, h => by cases h
  | p :: l, x, h => by
    rw [lk_cons] at h
    split at h
    · rename_i e; cases h; subst e; simp
    · exact List.mem_cons_of_mem _ (lk_mem h)

def putAll (l : List (Nat × ABlk)) (t : Tr ABlk) : Tr ABlk := l.foldr (fun p t => t.put p.1 p.2) t
theorem putAll_get (l : List (Nat × ABlk)) (t : Tr ABlk) (b : Nat) : (putAll l t).get b = (lk b l).or (t.get b) := by
  induction l with
  | nil => rfl
  | cons p l ih =>
    show ((putAll l t).put p.1 p.2).get b = _
    rw [Tr.get_put, lk_cons, ih]
    by_cases h : p.1 = b
    · rw [if_pos h.symm, if_pos h]; rfl
    · rw [if_neg (Ne.symm h), if_neg h]
def updAll (l : List (Nat × Option ABlk)) (t : Tr ABlk) : Tr ABlk := l.foldr (fun p t => Option.rec (motive := fun _ => Tr ABlk) (t.del p.1) (fun x => t.put p.1 x) p.2) t
theorem updAll_get (l : List (Nat × Option ABlk)) (t : Tr ABlk) (b : Nat) : (updAll l t).get b = match lk b l with | some o => o | none => t.get b := by
  induction l with
  | nil => rfl
  | cons p l ih =>
    obtain ⟨c, o⟩ := p
    rw [lk_cons]
    cases o with
    | none =>
      show ((updAll l t).del c).get b = _
      rw [Tr.get_del, ih]
      by_cases h : c = b
      · rw [if_pos h.symm, if_pos h]
      · rw [if_neg (Ne.symm h), if_neg h]
    | some x =>
      show ((updAll l t).put c x).get b = _
      rw [Tr.get_put, ih]
      by_cases h : c = b
      · rw [if_pos h.symm, if_pos h]
      · rw [if_neg (Ne.symm h), if_neg h]

def entH (e : Ent) : AH := { next := e.next, blk := putAll e.need .nil, lim := e.lim, exc := e.exc, hidAt := e.hidAt, hid := e.hid }
def updH (H : AH) (e : Ent) : AH := { next := e.next', blk := updAll e.upd H.blk, lim := e.lim, exc := e.exc, hidAt := e.hidAt, hid := e.hid }
def natsEq : List Nat → List Nat → Bool
  | [], [] => true
  | a :: x, b :: y => and (Nat.beq a b) (natsEq x y)
  | _, _ => false
theorem natsEq_sound : ∀ (a b : List Nat), natsEq a b = true → a = b
  | [], b, h => by cases b <;> first | rfl | cases h
  | x :: a, b, h => by
    cases b <;> first | (cases h; done) | skip
    simp only [natsEq, Bool.and_eq_true, Nat.beq_eq] at h
    rw [h.1, natsEq_sound _ _ h.2]
def isNil {α : Type} (l : List α) : Bool := List.rec (motive := fun _ => Bool) true (fun _ _ _ => false) l
def allB {α : Type} (f : α → Bool) (l : List α) : Bool := List.rec (motive := fun _ => Bool) true (fun a _ ih => ifb (f a) ih false) l
theorem allB_iff {α : Type} {f : α → Bool} {l : List α} : allB f l = true ↔ ∀ a ∈ l, f a = true := by
  induction l with
  | nil => simp [allB]
  | cons a l ih =>
    show ifb (f a) (allB f l) false = true ↔ _
    cases h : f a <;> simp [h, ih]

def asks (e : Ent) (f : AV) (args : List AV) (H : AH) : Bool :=
  ifb (avEq f (.fn e.k [] [])) (ifb (Nat.beq H.next e.next) (ifb (Nat.beq H.lim e.lim) (ifb (natsEq H.exc e.exc) (ifb (Nat.beq H.hidAt e.hidAt) (ifb (natsEq H.hid e.hid) (ifb (avEqs args e.args) (allB (fun p => hasBlk H p.1 p.2) e.need) false) false) false) false) false) false) false
def answer (e : Ent) (f : AV) (args : List AV) (H : AH) : Option Res := ifb (asks e f args H) (some { ex := .normal, τ := .nil, H := updH H e, v := e.v }) none
def oracle (es : List Ent) (f : AV) (args : List AV) (H : AH) : Option Res := List.rec (motive := fun _ => Option Res) none (fun e _ ih => orElse2 (answer e f args H) ih) es

def glbOf (o : Option ABlk) : Bool := Option.rec (motive := fun _ => Bool) false (fun x => x.glb) o
def roOf (o : Option ABlk) : Bool := Option.rec (motive := fun _ => Bool) true (fun x => x.ro) o
/-- Is the entry what the evaluation says? -/
def entOK (O : AV → List AV → AH → Option Res) (FT : Nat → Option IFunc) (n : Nat) (e : Ent) : Bool :=
  Option.rec (motive := fun _ => Bool) false (fun r => ifb (avEq r.v e.v) (ifb (Nat.beq r.H.next e.next') (ifb (Nat.ble e.next e.next') (ifb
    (allB (fun p => ifb (glbOf p.2) false (ifb (Nat.blt p.1 e.next') (ifb (Option.rec (motive := fun _ => Bool) true (fun x => hasBlk r.H p.1 x) p.2) (ifb (Nat.blt p.1 e.next) (and (not (roOf (lk p.1 e.need))) (and ((entH e).may p.1) ((entH e).view p.1).isSome)) true) false) false)) e.upd)
    (allB (fun p => ifb (Nat.blt p.1 e.next) (ifb (lk p.1 e.upd).isSome true (hasBlk r.H p.1 p.2)) false) e.need) false) false) false) false) (ev O FT n (.call (.fn e.k [] []) e.args (entH e)))

theorem hasBlk_iff {H : AH} {b : Nat} {x : ABlk} (h : hasBlk H b x = true) : H.blk.get b = some x := by
  unfold hasBlk at h
  cases hg : H.blk.get b with
  | none => rw [hg] at h; cases h
  | some y => rw [hg] at h; rw [blkEq_sound y x h]
theorem isNil_iff {α : Type} {l : List α} (h : isNil l = true) : l = [] := by cases l <;> first | rfl | cases h
end
end Go.Ai
