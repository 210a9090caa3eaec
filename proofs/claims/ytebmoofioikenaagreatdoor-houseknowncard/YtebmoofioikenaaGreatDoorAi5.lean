/- The check that resolved code is that of the model's; single operations. -/
import Derived.Test.YtebmoofioikenaaGreatDoorAi4
import Derived.Laws.Append
import Derived.ChangeKeysEq
namespace Go.Ai
open Go

/-- A cell of a kind: 0 to 7 integers, 8 bool, 9 string. -/
noncomputable def fitC (k : Nat) : Value → Bool
  | .int q n => decide (kNum q = k) && (Lit.int q n).wf
  | .bool _ => decide (k = 8)
  | .string s => decide (k = 9) && decide (s.size ≤ maxLen)
  | _ => false
noncomputable def fitCs : List Nat → List Value → Bool
  | [], [] => true
  | k :: ks, v :: vs => fitC k v && fitCs ks vs
  | _, _ => false
def FitV (agg : Bool) (ks : List Nat) (v : Value) : Prop := if agg = true then ∃ ys : Array Value, v = .agg ys ∧ fitCs ks ys.toList = true else fitC (hd0 ks) v = true

/-- Values of a type whose cells are of some kinds can be compared, and stand as keys of a map. -/
structure KT (P : Program) (t : TypeId) (agg : Bool) (ks : List Nat) : Prop where
  eq : ∀ w x y, FitV agg ks x → FitV agg ks y → ∃ r : Bool, (Op.equal t x y).run P w = .ok r w ∧ (r = true ↔ x = y)
  chk : ∀ w em x, FitV agg ks x → (Instr.checkKey em 10000 t x).run P w = .ok () w
  find : ∀ w k es, FitV agg ks k → (∀ e ∈ es, FitV agg ks e.key) →
    ((Instr.findKey t k es).run P w = .ok none w ∧ ∀ e ∈ es, e.key ≠ k) ∨ ∃ i e, (Instr.findKey t k es).run P w = .ok (some (i, e.val)) w ∧ es[i]? = some e ∧ e.key = k ∧ ∀ j m, j < i → es[j]? = some m → m.key ≠ k
  grd : agg = true → P.eqGuardType P.depth t = false

/-- What is kept of a type. -/
structure TS where
  desc : TypeDesc
  size : Nat
  bytes : Nat
  zero : Option Value
  key : Option (Bool × List Nat) := none

abbrev TT := Nat → Option TS

def TTok (tt : TT) (P : Program) : Prop :=
  ∀ t s, tt t = some s → P.underlying t = some s.desc ∧ (∃ i, P.info? t = some i ∧ i.size = s.size ∧ i.bytes = s.bytes ∧ i.zero = s.zero) ∧ ∀ p, s.key = some p → KT P t p.1 p.2

mutual
def ckV : AV → Value → Bool
  | .undef, _ => true
  | .bool a, .bool b => a == b
  | .int k n, .int k' n' => k == k' && n == n'
  | .str s, .string b => decide (s = b.data.toList)
  | .ptr none, .pointer none => true
  | .sl none 0 0 _ _, .slice none 0 0 => true
  | .map none, .map none => true
  | .nilFn, .nilFunc => true
  | .nilIface, .nilIface => true
  | .agg xs, .agg ys => ckVs xs ys.toList
  | .tup xs, .tuple ys => ckVs xs ys.toList
  | _, _ => false
def ckVs : List AV → List Value → Bool
  | [], [] => true
  | x :: xs, y :: ys => ckV x y && ckVs xs ys
  | _, _ => false
end

mutual
theorem ckV_sound (μ : Mu) : ∀ (a : AV) (v : Value), ckV a v = true → VR μ a v
  | .undef, _, _ => trivial
  | .bool _, v, h => by cases v <;> simp [ckV] at h; subst h; rfl
  | .int _ _, v, h => by cases v <;> simp [ckV] at h; obtain ⟨h1, h2⟩ := h; subst h1 h2; rfl
  | .str s, v, h => by
    cases v <;> simp [ckV] at h
    rename_i b; show Value.string b = .string ⟨s.toArray⟩
    rw [h]
  | .ptr none, v, h => by
    match v, h with
    | .pointer none, _ => rfl
  | .ptr (some _), v, h => by cases v <;> simp [ckV] at h
  | .sl a l c x z, v, h => by
    unfold ckV at h
    split at h <;> simp_all [VR]
  | .map none, v, h => by
    match v, h with
    | .map none, _ => rfl
  | .map (some _), v, h => by cases v <;> simp [ckV] at h
  | .fn _ _ _, v, h => by cases v <;> simp [ckV] at h
  | .yld _, v, h => by cases v <;> simp [ckV] at h
  | .nilFn, v, h => by cases v <;> simp [ckV] at h; rfl
  | .iface _ _, v, h => by cases v <;> simp [ckV] at h
  | .nilIface, v, h => by cases v <;> simp [ckV] at h; rfl
  | .agg xs, v, h => by
    cases v <;> simp [ckV] at h
    rename_i ys; exact ⟨ys, rfl, ckVs_sound μ xs _ h⟩
  | .tup xs, v, h => by
    cases v <;> simp [ckV] at h
    rename_i ys; exact ⟨ys, rfl, ckVs_sound μ xs _ h⟩
theorem ckVs_sound (μ : Mu) : ∀ (a : List AV) (v : List Value), ckVs a v = true → VRs μ a v
  | [], v, h => by cases v <;> simp [ckVs] at h; rfl
  | x :: xs, v, h => by
    cases v <;> simp [ckVs] at h
    rename_i y ys; exact ⟨y, ys, rfl, ckV_sound μ x y h.1, ckVs_sound μ xs ys h.2⟩
end

def ckO : Opd → Operand → Bool
  | .t p, .tmp n => Nat.beq p.num n
  | .c v, .const u => ckV v u
  | .f n, .func m => Nat.beq n m
  | _, _ => false

def ckOs : List Opd → List Operand → Bool
  | [], [] => true
  | x :: xs, y :: ys => ckO x y && ckOs xs ys
  | _, _ => false

def ckOo : Option Opd → Option Operand → Bool
  | none, none => true
  | some x, some y => ckO x y
  | _, _ => false

section
variable {N : Nat} {μ : Mu} {τ : Fr AV} {a : Act}
theorem ckO_sound (hF : FR N μ τ a.tmps) {x : Opd} {y : Operand} (h : ckO x y = true) : VR μ (x.ev τ) (a.eval y) := by
  cases x <;> cases y <;> simp [ckO] at h
  · rename_i p n
    have : p.num = n := by simpa using h
    subst this; exact hF.2 p
  · rename_i v u; exact ckV_sound μ v u h
  · rename_i n m
    have : n = m := by simpa using h
    subst this; exact ⟨#[], #[], rfl, rfl, rfl⟩
theorem ckOs_sound (hF : FR N μ τ a.tmps) : ∀ {xs : List Opd} {ys : List Operand}, ckOs xs ys = true → VRs μ (xs.map (Opd.ev τ)) (ys.map a.eval)
  | [], [], _ => rfl
  | [], _ :: _, h => by simp [ckOs] at h
  | _ :: _, [], h => by simp [ckOs] at h
  | x :: xs, y :: ys, h => by
    simp [ckOs] at h
    exact ⟨_, _, rfl, ckO_sound hF h.1, ckOs_sound hF h.2⟩
end

theorem VR.int {μ : Mu} {v : AV} {y : Value} {β : Type} {k : IntKind → Int → Option β} {b : β} (h : VR μ v y) (e : v.intK k = some b) : ∃ i n, v = .int i n ∧ y = .int i n ∧ k i n = some b := by
  cases v <;> simp [AV.intK] at e
  exact ⟨_, _, rfl, h, e⟩
theorem VR.bool {μ : Mu} {v : AV} {y : Value} {β : Type} {k : Bool → Option β} {b : β} (h : VR μ v y) (e : v.boolK k = some b) : ∃ t, v = .bool t ∧ y = .bool t ∧ k t = some b := by
  cases v <;> simp [AV.boolK] at e
  exact ⟨_, rfl, h, e⟩
theorem VR.str {μ : Mu} {v : AV} {y : Value} {β : Type} {k : List UInt8 → Option β} {b : β} (h : VR μ v y) (e : v.strK k = some b) : ∃ s, v = .str s ∧ y = .string ⟨s.toArray⟩ ∧ k s = some b := by
  cases v <;> simp [AV.strK] at e
  exact ⟨_, rfl, h, e⟩
theorem VR.aggE {μ : Mu} {v : AV} {y : Value} {β : Type} {k : List AV → Option β} {b : β} (h : VR μ v y) (e : v.aggK k = some b) : ∃ cs, ∃ ys : Array Value, v = .agg cs ∧ y = .agg ys ∧ VRs μ cs ys.toList ∧ k cs = some b := by
  cases v <;> simp [AV.aggK] at e
  obtain ⟨ys, h1, h2⟩ := h
  exact ⟨_, ys, rfl, h1, h2, e⟩
theorem VR.tupE {μ : Mu} {v : AV} {y : Value} {β : Type} {k : List AV → Option β} {b : β} (h : VR μ v y) (e : v.tupK k = some b) : ∃ cs, ∃ ys : Array Value, v = .tup cs ∧ y = .tuple ys ∧ VRs μ cs ys.toList ∧ k cs = some b := by
  cases v <;> simp [AV.tupK] at e
  obtain ⟨ys, h1, h2⟩ := h
  exact ⟨_, ys, rfl, h1, h2, e⟩
theorem VR.ptrE {μ : Mu} {v : AV} {y : Value} {β : Type} {k : Nat → Nat → Option β} {b : β} (h : VR μ v y) (e : v.ptrK k = some b) :
    ∃ c o i, v = .ptr (some (c, o)) ∧ μ c = some i ∧ y = .pointer (some ⟨i.c, i.d + o, none⟩) ∧ k c o = some b := by
  cases v <;> simp [AV.ptrK] at e
  rename_i p; cases p with
  | none => simp [pairK] at e
  | some p => obtain ⟨c, o⟩ := p; obtain ⟨i, h1, h2⟩ := h; exact ⟨c, o, i, rfl, h1, h2, e⟩
theorem VR.slE {μ : Mu} {v : AV} {y : Value} {β : Type} {k : Option (Nat × Nat) → Nat → Nat → Bool → Nat → Option β} {b : β} (h : VR μ v y) (e : v.slK k = some b) :
    ∃ p l c x z, v = .sl p l c x z ∧ k p l c x z = some b ∧ VR μ (.sl p l c x z) y := by
  cases v <;> simp [AV.slK] at e
  exact ⟨_, _, _, _, _, rfl, e, h⟩
theorem VR.mapE {μ : Mu} {v : AV} {y : Value} {β : Type} {k : Option Nat → Option β} {b : β} (h : VR μ v y) (e : v.mapK k = some b) :
    ∃ r, v = .map r ∧ k r = some b ∧ VR μ (.map r) y := by
  cases v <;> simp [AV.mapK] at e
  exact ⟨_, rfl, e, h⟩

theorem cellsK_some {β : Type} {x : ABlk} {k : Bool → List AV → Option β} {b : β} (h : x.cellsK k = some b) : ∃ ro vs, ∃ ty, x = .cells ro vs ty ∧ k ro vs = some b := by
  cases x <;> simp [ABlk.cellsK] at h
  exact ⟨_, _, _, rfl, h⟩
theorem mapK_some {β : Type} {x : ABlk} {k : List (AV × AV) → Option β} {b : β} (h : x.mapK k = some b) : ∃ es, x = .map es ∧ k es = some b := by
  cases x <;> simp [ABlk.mapK] at h
  exact ⟨_, rfl, h⟩

theorem iterK_some {β : Type} {x : ABlk} {k : List UInt8 → Nat → Option β} {b : β} (h : x.iterK k = some b) : ∃ s pos, x = .iter s pos ∧ k s pos = some b := by
  cases x <;> simp [ABlk.iterK] at h
  exact ⟨_, _, rfl, h⟩

/-! ### Reading -/
section
variable {CR : CRel} {B : Nat} {H : AH} {μ : Mu} {w : World} {P : Program}

theorem addr_add (c o n : Nat) : (⟨c, o, none⟩ : Addr).add n = ⟨c, o + n, none⟩ := by unfold Addr.add; split <;> simp_all

theorem ld_sound (h : HR CR B H μ w) {b o n : Nat} {e : Img} (hm : μ b = some e) {vs : List AV} (hl : H.ld b o n = some vs) :
    ∃ ys : List Value, VRs μ vs ys ∧ ys.length = n ∧ ∀ i y, ys[i]? = some y → w.cell? ⟨e.c, e.d + o + i, none⟩ = some y := by
  unfold AH.ld at hl
  obtain ⟨x, hv, hx⟩ := obind_eq_some.1 hl
  obtain ⟨ro, cs, ty, rfl, hc⟩ := cellsK_some hx
  rw [dropN_eq, takeN_eq] at hc
  split at hc <;> simp at hc
  rename_i hlen
  obtain ⟨cs', t, fz, h1, h2, h3, h4⟩ := h.blk b e _ hm hv
  refine ⟨((((cs'.toList.drop e.d).take cs.length).drop o).take n), hc ▸ (h3.drop o).take n, ?_, ?_⟩
  · have := h3.length; simp at this hlen ⊢; omega
  · intro i y hy
    simp only [World.cell?, h1, Option.isSome_none, Bool.false_eq_true, if_false]
    rw [List.getElem?_take] at hy; split at hy
    · rw [List.getElem?_drop, List.getElem?_take] at hy; split at hy
      · rw [List.getElem?_drop] at hy; rw [← Array.getElem?_toList]; rw [← hy]; congr 1; omega
      · cases hy
    · cases hy
theorem ld1_sound (h : HR CR B H μ w) {b o : Nat} {e : Img} (hm : μ b = some e) {v : AV} (hl : H.ld1 b o = some v) :
    ∃ y : Value, VR μ v y ∧ w.cell? ⟨e.c, e.d + o, none⟩ = some y := by
  unfold AH.ld1 at hl
  obtain ⟨x, hv, hx⟩ := obind_eq_some.1 hl
  obtain ⟨ro, cs, ty, rfl, hc⟩ := cellsK_some hx
  rw [nth_eq] at hc
  obtain ⟨cs', t, fz, h1, h2, h3, h4⟩ := h.blk b e _ hm hv
  obtain ⟨y, hy, hr⟩ := h3.get hc
  refine ⟨y, hr, ?_⟩
  simp only [World.cell?, h1, Option.isSome_none, Bool.false_eq_true, if_false]
  rw [List.getElem?_take] at hy; split at hy
  · rw [List.getElem?_drop] at hy; rw [← Array.getElem?_toList]; exact hy
  · cases hy

theorem run_loadCells_ld (e : Img) (o n : Nat) (ys : List Value) (hn : ys.length = n) (hc : ∀ i y, ys[i]? = some y → w.cell? ⟨e.c, e.d + o + i, none⟩ = some y) :
    (loadCells ⟨e.c, e.d + o, none⟩ n).run P w = .ok ys.toArray w := by
  subst hn
  exact run_loadCells_list w _ ys fun j v hv => by rw [addr_add]; exact hc j v hv

theorem run_isAgg {t : TypeId} {d : TypeDesc} (h : P.underlying t = some d) : (isAgg t).run P w = .ok (match d with | .struct _ | .array _ _ => true | _ => false) w := by
  unfold isAgg
  simp only [Sem.run_bind, run_underlying h, Result.andThen_ok]
  cases d <;> rfl

theorem run_sizeOf' {t : TypeId} {i : TypeInfo} (h : P.info? t = some i) : (sizeOf t).run P w = .ok i.size w := by
  simp [sizeOf, typeInfo, h]
theorem run_typeInfo' {t : TypeId} {i : TypeInfo} (h : P.info? t = some i) : (typeInfo t).run P w = .ok i w := by simp [typeInfo, h]
theorem run_zeroValue' {t : TypeId} {i : TypeInfo} {z : Value} (h : P.info? t = some i) (hz : i.zero = some z) : (zeroValue t).run P w = .ok z w := by simp [zeroValue, typeInfo, h, hz]

def isAggD : TypeDesc → Bool
  | .struct _ => true
  | .array _ _ => true
  | _ => false

theorem run_loadVar_agg {t : TypeId} {d : TypeDesc} {i : TypeInfo} (hd : P.underlying t = some d) (ha : isAggD d = true) (hi : P.info? t = some i) (a : Addr) {ys : Array Value} (hl : (loadCells a i.size).run P w = .ok ys w) :
    (loadVar t a).run P w = .ok (.agg ys) w := by
  have e : (isAgg t).run P w = .ok true w := by rw [run_isAgg hd]; cases d <;> simp [isAggD] at ha <;> rfl
  simp [loadVar, e, run_sizeOf' hi, hl]
theorem run_loadVar_one {t : TypeId} {d : TypeDesc} (hd : P.underlying t = some d) (ha : isAggD d = false) (a : Addr) {y : Value} (hl : w.cell? a = some y) :
    (loadVar t a).run P w = .ok y w := by
  have e : (isAgg t).run P w = .ok false w := by rw [run_isAgg hd]; cases d <;> simp [isAggD] at ha <;> rfl
  simp [loadVar, e, hl]
end
end Go.Ai
