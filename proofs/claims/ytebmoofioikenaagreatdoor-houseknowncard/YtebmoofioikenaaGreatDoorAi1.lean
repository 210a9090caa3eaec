/- Plain facts on the abstract machine's tries and lists. -/
import Derived.Test.YtebmoofioikenaaGreatDoorAi0
namespace Go.Ai
variable {α β : Type}

@[simp] theorem ifb_true (x y : β) : ifb true x y = x := rfl
@[simp] theorem ifb_false (x y : β) : ifb false x y = y := rfl
theorem ifb_eq (c : Bool) (x y : β) : ifb c x y = if c = true then x else y := by cases c <;> rfl
@[simp] theorem obind_none (f : α → Option β) : Option.obind none f = none := rfl
@[simp] theorem obind_some (a : α) (f : α → Option β) : Option.obind (some a) f = f a := rfl
@[simp] theorem ogetU_none : Option.ogetU none = .undef := rfl
@[simp] theorem ogetU_some (v : AV) : Option.ogetU (some v) = v := rfl

theorem obind_eq_some {x : Option α} {f : α → Option β} {b : β} : Option.obind x f = some b ↔ ∃ a, x = some a ∧ f a = some b := by
  cases x <;> simp
theorem ifb_none_eq_some {c : Bool} {x : Option β} {b : β} : ifb c x none = some b ↔ c = true ∧ x = some b := by cases c <;> simp
theorem ifb_none_eq_some' {c : Bool} {x : Option β} {b : β} : ifb c none x = some b ↔ c = false ∧ x = some b := by cases c <;> simp

/-! ### The heap's trie -/
@[simp] theorem Tr.get_nil (k : Nat) : (Tr.nil : Tr α).get k = none := rfl
theorem Tr.get_node (v : Option α) (l r : Tr α) (k : Nat) :
    (Tr.node v l r).get k = if k = 0 then v else if k % 2 = 1 then l.get (k / 2) else r.get (k / 2 - 1) := by
  show ifb (Nat.beq k 0) v (ifb (Nat.beq (Nat.mod k 2) 1) (l.get (Nat.div k 2)) (r.get (Nat.sub (Nat.div k 2) 1))) = _
  simp only [ifb_eq, Nat.beq_eq]; rfl
@[simp] theorem Tr.force_eq (t : Tr α) (f : Tr α → β) : t.force f = f t := by cases t <;> rfl

theorem Tr.set_succ_nil (d k : Nat) (a : Option α) : Tr.set (d + 1) .nil k a =
    if k = 0 then .node a .nil .nil else if k % 2 = 1 then .node none (Tr.set d .nil (k / 2) a) .nil else .node none .nil (Tr.set d .nil (k / 2 - 1) a) := by
  show Tr.set0 (Tr.set d) k a = _
  simp only [Tr.set0, ifb_eq, Nat.beq_eq, Tr.force_eq]; rfl
theorem Tr.set_succ_node (d k : Nat) (a v : Option α) (l r : Tr α) : Tr.set (d + 1) (.node v l r) k a =
    if k = 0 then .node a l r else if k % 2 = 1 then .node v (Tr.set d l (k / 2) a) r else .node v l (Tr.set d r (k / 2 - 1) a) := by
  show Tr.set1 (Tr.set d) k a v l r = _
  simp only [Tr.set1, ifb_eq, Nat.beq_eq, Tr.force_eq]; rfl

theorem Tr.get_set (d : Nat) : ∀ (t : Tr α) (k j : Nat) (a : Option α), k < d → (Tr.set d t k a).get j = if j = k then a else t.get j := by
  induction d with
  | zero => intro t k j a h; omega
  | succ d ih =>
    intro t k j a h
    cases t with
    | nil =>
      rw [Tr.set_succ_nil]
      split
      · subst k; rw [Tr.get_node]; split <;> simp_all
      · split
        · rw [Tr.get_node]
          by_cases h0 : j = 0
          · simp [h0]; intro; omega
          · by_cases h1 : j % 2 = 1
            · rw [if_neg h0, if_pos h1, ih _ _ _ _ (by omega)]
              by_cases e : j = k
              · subst e; simp
              · rw [if_neg e, if_neg (by omega)]; simp
            · rw [if_neg h0, if_neg h1, if_neg (by omega)]; simp
        · rw [Tr.get_node]
          by_cases h0 : j = 0
          · simp [h0]; intro; omega
          · by_cases h1 : j % 2 = 1
            · rw [if_neg h0, if_pos h1, if_neg (by omega)]; simp
            · rw [if_neg h0, if_neg h1, ih _ _ _ _ (by omega)]
              by_cases e : j = k
              · subst e; simp
              · rw [if_neg e, if_neg (by omega)]; simp
    | node v l r =>
      rw [Tr.set_succ_node]
      split
      · subst k; rw [Tr.get_node, Tr.get_node]; split <;> simp_all
      · split
        · rw [Tr.get_node, Tr.get_node]
          by_cases h0 : j = 0
          · simp [h0]; intro; omega
          · by_cases h1 : j % 2 = 1
            · rw [if_neg h0, if_pos h1, ih _ _ _ _ (by omega)]
              by_cases e : j = k
              · subst e; simp
              · rw [if_neg e, if_neg (by omega), if_neg h0, if_pos h1]
            · rw [if_neg h0, if_neg h1, if_neg (by omega), if_neg h0, if_neg h1]
        · rw [Tr.get_node, Tr.get_node]
          by_cases h0 : j = 0
          · simp [h0]; intro; omega
          · by_cases h1 : j % 2 = 1
            · rw [if_neg h0, if_pos h1, if_neg (by omega), if_neg h0, if_pos h1]
            · rw [if_neg h0, if_neg h1, ih _ _ _ _ (by omega)]
              by_cases e : j = k
              · subst e; simp
              · rw [if_neg e, if_neg (by omega), if_neg h0, if_neg h1]

theorem Tr.get_put (t : Tr α) (k j : Nat) (a : α) : (t.put k a).get j = if j = k then some a else t.get j := Tr.get_set _ _ _ _ _ (Nat.lt_succ_self k)
theorem Tr.get_del (t : Tr α) (k j : Nat) : (t.del k).get j = if j = k then none else t.get j := Tr.get_set _ _ _ _ _ (Nat.lt_succ_self k)

/-! ### Frames -/
def Pth.num : Pth → Nat
  | .e => 0
  | .o p => 2 * p.num + 1
  | .i p => 2 * p.num + 2

theorem Pth.num_inj : ∀ {p q : Pth}, p.num = q.num → p = q := by
  intro p
  induction p with
  | e => intro q h; cases q <;> simp [Pth.num] at h ⊢
  | o p ih => intro q h; cases q <;> simp [Pth.num] at h ⊢ <;> first | exact ih (by omega) | omega
  | i p ih => intro q h; cases q <;> simp [Pth.num] at h ⊢ <;> first | exact ih (by omega) | omega

theorem Pth.num_succ (p : Pth) : p.succ.num = p.num + 1 := by
  induction p with
  | e => rfl
  | o p ih => rfl
  | i p ih => show 2 * p.succ.num + 1 = _; simp only [Pth.num, ih]; omega

@[simp] theorem Fr.get_nil (p : Pth) : (Fr.nil : Fr α).get p = none := by cases p <;> rfl
@[simp] theorem Fr.force_eq (t : Fr α) (f : Fr α → β) : t.force f = f t := by cases t <;> rfl
theorem Fr.get_node_e (v : Option α) (l r : Fr α) : (Fr.node v l r).get .e = v := rfl
theorem Fr.get_node_o (v : Option α) (l r : Fr α) (p : Pth) : (Fr.node v l r).get (.o p) = l.get p := rfl
theorem Fr.get_node_i (v : Option α) (l r : Fr α) (p : Pth) : (Fr.node v l r).get (.i p) = r.get p := rfl

theorem Fr.get_put (t : Fr α) (p q : Pth) (a : α) : (t.put p a).get q = if q = p then some a else t.get q := by
  induction p generalizing t q with
  | e => cases t <;> cases q <;> simp [Fr.put, Fr.get_node_e, Fr.get_node_o, Fr.get_node_i]
  | o p ih =>
    cases t with
    | nil =>
      have : (Fr.nil : Fr α).put (.o p) a = .node none ((Fr.nil : Fr α).put p a) .nil := Fr.force_eq ((Fr.nil : Fr α).put p a) (fun l => Fr.node none l .nil)
      rw [this]; cases q <;> simp [Fr.get_node_e, Fr.get_node_o, Fr.get_node_i, ih]
    | node v l r =>
      have : (Fr.node v l r).put (.o p) a = .node v (l.put p a) r := Fr.force_eq (l.put p a) (fun l => Fr.node v l r)
      rw [this]; cases q <;> simp [Fr.get_node_e, Fr.get_node_o, Fr.get_node_i, ih]
  | i p ih =>
    cases t with
    | nil =>
      have : (Fr.nil : Fr α).put (.i p) a = .node none .nil ((Fr.nil : Fr α).put p a) := Fr.force_eq ((Fr.nil : Fr α).put p a) (fun r => Fr.node none .nil r)
      rw [this]; cases q <;> simp [Fr.get_node_e, Fr.get_node_o, Fr.get_node_i, ih]
    | node v l r =>
      have : (Fr.node v l r).put (.i p) a = .node v l (r.put p a) := Fr.force_eq (r.put p a) (fun r => Fr.node v l r)
      rw [this]; cases q <;> simp [Fr.get_node_e, Fr.get_node_o, Fr.get_node_i, ih]

/-! ### Lists -/
@[simp] theorem takeN_zero (l : List α) : takeN 0 l = some [] := rfl
@[simp] theorem takeN_succ_nil (n : Nat) : takeN (n + 1) ([] : List α) = none := rfl
@[simp] theorem takeN_succ_cons (n : Nat) (a : α) (l : List α) : takeN (n + 1) (a :: l) = (takeN n l).obind fun r => some (a :: r) := rfl
theorem takeN_eq (n : Nat) (l : List α) : takeN n l = if n ≤ l.length then some (l.take n) else none := by
  induction n generalizing l with
  | zero => simp
  | succ n ih => cases l with
    | nil => simp
    | cons a l => rw [takeN_succ_cons, ih]; by_cases h : n ≤ l.length <;> simp [h]
@[simp] theorem dropN_eq (n : Nat) (l : List α) : dropN n l = l.drop n := by
  induction n generalizing l with
  | zero => rfl
  | succ n ih => cases l with
    | nil => rfl
    | cons a l => show dropN n l = _; rw [ih]; rfl
theorem nth_eq (l : List α) (n : Nat) : nth l n = l[n]? := by
  unfold nth; rw [dropN_eq]
  cases h : l.drop n with
  | nil => simp at h; simp [h]
  | cons a r =>
    have : l[n]? = (l.drop n)[0]? := by simp
    rw [this, h]; rfl
theorem over0_eq (vs l : List α) : over0 vs l = if vs.length ≤ l.length then some (vs ++ l.drop vs.length) else none := by
  induction vs generalizing l with
  | nil => rfl
  | cons v vs ih => cases l with
    | nil => simp [over0]
    | cons a l =>
      have : over0 (v :: vs) (a :: l) = (over0 vs l).obind fun r => some (v :: r) := rfl
      rw [this, ih]; by_cases h : vs.length ≤ l.length <;> simp [h]
theorem over_eq (l : List α) (n : Nat) (vs : List α) : over l n vs = if n + vs.length ≤ l.length then some (l.take n ++ vs ++ l.drop (n + vs.length)) else none := by
  induction n generalizing l with
  | zero => show over0 vs l = _; rw [over0_eq]; simp
  | succ n ih => cases l with
    | nil => simp [over]
    | cons a l =>
      have : over (a :: l) (n + 1) vs = (over l n vs).obind fun r => some (a :: r) := rfl
      rw [this, ih]
      by_cases h : n + vs.length ≤ l.length
      · rw [if_pos h, if_pos (by simp; omega)]; simp; rw [show n + 1 + vs.length = (n + vs.length) + 1 from by omega, List.drop_succ_cons]
      · rw [if_neg h, if_neg (by simp; omega)]; rfl
theorem repN_length (n : Nat) (l : List α) : (repN n l).length = n * l.length := by
  induction n with
  | zero => rw [show repN 0 l = [] from rfl]; simp
  | succ n ih => show (l ++ repN n l).length = _; simp [ih, Nat.succ_mul]; omega

/-! ### Numbers -/
theorem ileb_eq (a b : Int) : ileb a b = decide (a ≤ b) := by
  cases a with
  | ofNat m => cases b with
    | ofNat n => show Nat.ble m n = _; rw [Bool.eq_iff_iff]; simp
    | negSucc n => show false = _; symm; simp; omega
  | negSucc m => cases b with
    | ofNat n => show true = _; symm; simp; omega
    | negSucc n => show Nat.ble n m = _; rw [Bool.eq_iff_iff]; simp; omega
theorem iltb_eq (a b : Int) : iltb a b = decide (a < b) := by
  rw [iltb, ileb_eq, Bool.eq_iff_iff]; simp
theorem ieqb_eq (a b : Int) : ieqb a b = (a == b) := by
  cases a with
  | ofNat m => cases b with
    | ofNat n => show Nat.beq m n = _; rw [Bool.eq_iff_iff]; simp; omega
    | negSucc n => show false = _; symm; rw [beq_eq_false_iff_ne]; simp
  | negSucc m => cases b with
    | ofNat n => show false = _; symm; rw [beq_eq_false_iff_ne]; simp
    | negSucc n => show Nat.beq m n = _; rw [Bool.eq_iff_iff]; simp
theorem beqK_eq (a b : IntKind) : beqK a b = decide (a = b) := by cases a <;> cases b <;> rfl
theorem wrap_i64 (n : Int) : IntKind.wrap .i64 n =
    if 9223372036854775808 ≤ n % 18446744073709551616 then n % 18446744073709551616 - 18446744073709551616 else n % 18446744073709551616 := by
  have e1 : ((2 : Int) ^ IntKind.bits .i64) = 18446744073709551616 := by decide
  have e2 : ((2 : Int) ^ (IntKind.bits .i64 - 1)) = 9223372036854775808 := by decide
  unfold IntKind.wrap
  simp only [e1, e2, IntKind.signed, Bool.true_and, ge_iff_le, decide_eq_true_eq]
theorem wrap_u64 (n : Int) : IntKind.wrap .u64 n = n % 18446744073709551616 := by
  have e1 : ((2 : Int) ^ IntKind.bits .u64) = 18446744073709551616 := by decide
  unfold IntKind.wrap
  simp only [e1, IntKind.signed, Bool.false_and, Bool.false_eq_true, if_false]
theorem wrapK_eq (k : IntKind) (n : Int) : wrapK k n = k.wrap n := by
  cases k <;> try rfl
  · show wrap64q n = _
    cases n with
    | ofNat m =>
      show ifb (Nat.ble m 9223372036854775807) _ _ = _
      rw [ifb_eq]; split
      · rename_i h
        have h := Nat.le_of_ble_eq_true h
        have e : Int.ofNat m = (m : Int) := rfl
        rw [wrap_i64, e, if_neg (by omega)]; omega
      · rfl
    | negSucc m =>
      show ifb (Nat.ble m 9223372036854775807) _ _ = _
      rw [ifb_eq]; split
      · rename_i h
        have h := Nat.le_of_ble_eq_true h
        rw [wrap_i64, if_pos (by omega)]; omega
      · rfl
  · show wrapU64q n = _
    cases n with
    | ofNat m => rw [wrap_u64]; rfl
    | negSucc m => rfl
end Go.Ai
