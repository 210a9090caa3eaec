/- Single operations: binary ones, stores, appends. -/
import Derived.Test.YtebmoofioikenaaGreatDoorAi7
import Derived.Laws.Strings
namespace Go.Ai
open Go

section
variable (tt : TT)
def cEqB (neg : Bool) (x y : Opd) : Op → Option Unit
  | .binOp op t a b _ => onT tt t fun s => match s.desc with
    | .bool => yes? (decide (op = (if neg then .neq else .eql)) && (ckO x a && ckO y b))
    | _ => none
  | _ => none
def cAppend (esz bytes ety : Nat) (s x : Opd) : Op → Option Unit
  | .call { callee := .builtin .append, args := as, argTypes := ts } => match as.toList, ts.toList with
    | [a, b], [t, t'] => onT tt t fun e => match e.desc with
      | .slice el => onT tt el fun z => onT tt t' fun e' => match e'.desc with
        | .int _ => none
        | _ => z.zero.bind fun zv => yes? (Nat.beq z.size esz && (Nat.beq z.bytes bytes && (ckO s a && (ckO x b && (Nat.beq zv.cells.size esz && (Nat.blt 0 bytes && (Nat.beq ety 0 || Nat.beq ety (3 * el + 3))))))))
      | _ => none
    | _, _ => none
  | _ => none
end

section
variable {tt : TT} {CR : CRel} {B N : Nat} {P : Program} {H : AH} {μ : Mu} {w : World} {τ : Fr AV} {a : Act} {u : Unit} {out : Out} {o : Oper}

theorem run_binOp {op : BinOp} {t yt : TypeId} {x y : Operand} {vx vy : Value} (ho : o.op = .binOp op t x y yt) (hx : a.eval x = vx) (hy : a.eval y = vy)
    (h1 : vx ≠ .nilIface) (h2 : ∀ cs, vx ≠ .agg cs) : (execOp a.eval o).run P w = ((binOp op t vx vy).run P w).andThen fun r w' => .ok (.value r) w' := by
  have e : (eqGuard op t x y vx vy).run P w = .ok () w := by
    unfold eqGuard
    cases vx <;> first | exact absurd rfl h1 | exact absurd rfl (h2 _) | (cases op <;> rfl)
  simp [execOp, ho, hx, hy, e]

theorem beqK_iff {k k' : IntKind} : beqK k k' = true ↔ k = k' := by rw [beqK_eq]; simp

theorem eqB_eq (a b : List UInt8) : eqB a b = (a == b) := by
  induction a generalizing b with
  | nil => cases b <;> rfl
  | cons x a ih => cases b with
    | nil => rfl
    | cons y b =>
      show ifb (Nat.beq x.toNat y.toNat) (eqB a b) false = _
      by_cases h : x = y
      · subst h; simp [ih]
      · have : Nat.beq x.toNat y.toNat = false := by
          rw [← Bool.not_eq_true, Nat.beq_eq]; exact fun g => h (UInt8.toNat_inj.1 g)
        rw [this]; simp [h]

theorem s_bin (hF : FR N μ τ a.tmps) (h : HR CR B H μ w) {op : BinOp} {x y : Opd} (hT : TTok tt P) (hc : cBin tt op x y o.op = some u) (hr : rBin op x y τ H = some out) : Good CR B H μ w ((execOp a.eval o).run P w) out := by
  unfold cBin at hc
  split at hc <;> first | cases hc | skip
  rename_i op' t x' y' yt ho
  obtain ⟨s, ii, g1, g2, g3, g4, g5, g6⟩ := onT_some hT hc
  rw [yes?_some] at g6; simp only [Bool.and_eq_true, decide_eq_true_eq] at g6
  obtain ⟨rfl, q1, q2, _⟩ := g6
  have hx := ckO_sound hF q1
  have hy := ckO_sound hF q2
  obtain ⟨v, hv, rfl⟩ := valK_some hr
  unfold bin at hv
  generalize x.ev τ = X at hx hv
  cases X <;> simp only [AV.el] at hv <;> first | cases hv | skip
  · -- integers
    rename_i k n
    have hx : a.eval x' = .int k n := hx
    obtain ⟨k', m, e1, e2, e3⟩ := hy.int hv
    rw [run_binOp ho hx e2 (by simp) (fun _ => by simp)]
    have fin : ∀ r : Value, (binOp op t (.int k n) (.int k' m)).run P w = .ok r w → VR μ v r → Good CR B H μ w (((binOp op t (.int k n) (.int k' m)).run P w).andThen fun r w' => .ok (.value r) w') (.val v H) := by
      intro r h1 h2; exact quietV h (by rw [h1]; rfl) h2
    cases op <;> simp only [binI, same, shift, ifb_none_eq_some, beqK_iff] at e3
    case shl =>
      unfold iShl at e3; rw [ifb_none_eq_some, ileb_eq] at e3
      simp only [decide_eq_true_eq] at e3; obtain ⟨p, e3⟩ := e3; cases e3
      exact fin _ (by simp [binOp, Op.shift, Int.not_lt.2 p]; rfl) (by rw [wrapK_eq]; rfl)
    case shr =>
      unfold iShr at e3; rw [ifb_none_eq_some, ileb_eq] at e3
      simp only [decide_eq_true_eq] at e3; obtain ⟨p, e3⟩ := e3; cases e3
      exact fin _ (by simp [binOp, Op.shift, Int.not_lt.2 p]) rfl
    all_goals (obtain ⟨rfl, e3⟩ := e3)
    case add => cases e3; exact fin _ (by simp [binOp, Op.intArith]; rfl) (by rw [wrapK_eq]; rfl)
    case sub => cases e3; exact fin _ (by simp [binOp, Op.intArith]; rfl) (by rw [wrapK_eq]; rfl)
    case mul => cases e3; exact fin _ (by simp [binOp, Op.intArith]; rfl) (by rw [wrapK_eq]; rfl)
    case quo =>
      unfold iQuo at e3; rw [ifb_none_eq_some', ieqb_eq] at e3; obtain ⟨p, e3⟩ := e3; cases e3
      have p : m ≠ 0 := by simpa using p
      exact fin _ (by simp [binOp, Op.intDiv, p]; rfl) (by rw [wrapK_eq]; rfl)
    case rem =>
      unfold iRem at e3; rw [ifb_none_eq_some', ieqb_eq] at e3; obtain ⟨p, e3⟩ := e3; cases e3
      have p : m ≠ 0 := by simpa using p
      exact fin _ (by simp [binOp, Op.intDiv, p]) rfl
    case eql => cases e3; exact fin _ (by simp [binOp, Op.intCmp]; rfl) (by rw [ieqb_eq]; rfl)
    case neq => cases e3; exact fin (.bool (n != m)) (by simp [binOp, Op.intCmp]) (by rw [ieqb_eq]; rfl)
    case lss => cases e3; exact fin _ (by simp [binOp, Op.intCmp]; rfl) (by rw [iltb_eq]; rfl)
    case leq => cases e3; exact fin _ (by simp [binOp, Op.intCmp]; rfl) (by rw [ileb_eq]; rfl)
    case gtr => cases e3; exact fin _ (by simp [binOp, Op.intCmp]; rfl) (by rw [iltb_eq]; rfl)
    case geq => cases e3; exact fin _ (by simp [binOp, Op.intCmp]; rfl) (by rw [ileb_eq]; rfl)
    case and => unfold iBits at e3; obtain ⟨r, e4, e5⟩ := obind_eq_some.1 e3; cases e4; cases e5; exact fin _ (by simp [binOp, Op.intBits]) rfl
    case or => unfold iBits at e3; obtain ⟨r, e4, e5⟩ := obind_eq_some.1 e3; cases e4; cases e5; exact fin _ (by simp [binOp, Op.intBits]) rfl
    case xor => unfold iBits at e3; obtain ⟨r, e4, e5⟩ := obind_eq_some.1 e3; cases e4; cases e5; exact fin _ (by simp [binOp, Op.intBits]) rfl
    case andNot => unfold iBits at e3; obtain ⟨r, e4, e5⟩ := obind_eq_some.1 e3; cases e4; cases e5; exact fin _ (by simp [binOp, Op.intBits]) rfl
  · -- strings
    rename_i b
    have hx : a.eval x' = .string ⟨b.toArray⟩ := hx
    obtain ⟨c, e1, e2, e3⟩ := hy.str hv
    rw [run_binOp ho hx e2 (by simp) (fun _ => by simp)]
    have fin : ∀ r : Value, (binOp op t (.string ⟨b.toArray⟩) (.string ⟨c.toArray⟩)).run P w = .ok r w → VR μ v r → Good CR B H μ w (((binOp op t (.string ⟨b.toArray⟩) (.string ⟨c.toArray⟩)).run P w).andThen fun r w' => .ok (.value r) w') (.val v H) := by
      intro r h1 h2; exact quietV h (by rw [h1]; rfl) h2
    have hb : ∀ l : List UInt8, (⟨l.toArray⟩ : ByteArray).toList = l := ByteArray.toList_mk
    have hs : ∀ l : List UInt8, (⟨l.toArray⟩ : ByteArray).size = l.length := fun l => by show l.toArray.size = _; simp
    unfold binS at e3
    cases op <;> simp only at e3 <;> first | cases e3 | skip
    · rw [ifb_none_eq_some] at e3; obtain ⟨p, e3⟩ := e3; cases e3
      have p := Nat.le_of_ble_eq_true p
      refine fin (.string (⟨b.toArray⟩ ++ ⟨c.toArray⟩)) ?_ ?_
      · have : ¬ ((b.length : Int) + c.length > IntKind.i64.max) := by
          have : IntKind.i64.max = 9223372036854775807 := by decide
          omega
        have hs1 := hs b; have hs2 := hs c
        simp only [binOp, Op.stringOp]
        rw [hs1, hs2, if_neg (by push_cast; exact this)]
        rfl
      · show Value.string (⟨b.toArray⟩ ++ ⟨c.toArray⟩) = .string ⟨(b ++ c).toArray⟩
        congr 1; first | done | (apply ByteArray.ext; simp)
    · exact fin (.bool (b == c)) (by simp only [binOp, Op.stringOp, hb]; rfl) (by rw [eqB_eq]; rfl)
    · exact fin (.bool (!(b == c))) (by simp only [binOp, Op.stringOp, hb]; rfl) (by rw [eqB_eq]; rfl)

theorem s_eqB (hF : FR N μ τ a.tmps) (h : HR CR B H μ w) {neg : Bool} {x y : Opd} (hT : TTok tt P) (hc : cEqB tt neg x y o.op = some u) (hr : rEqB neg x y τ H = some out) : Good CR B H μ w ((execOp a.eval o).run P w) out := by
  unfold cEqB at hc
  split at hc <;> first | cases hc | skip
  rename_i op t x' y' yt ho
  obtain ⟨s, ii, g1, g2, g3, g4, g5, g6⟩ := onT_some hT hc
  split at g6 <;> first | cases g6 | skip
  rename_i hd
  rw [yes?_some] at g6; simp only [Bool.and_eq_true, decide_eq_true_eq] at g6
  obtain ⟨q0, q1, q2⟩ := g6
  unfold rEqB at hr
  obtain ⟨b, e1, e2, e3⟩ := (ckO_sound hF q1).bool hr
  obtain ⟨c, f1, f2, f3⟩ := (ckO_sound hF q2).bool e3
  cases f3
  rw [run_binOp ho e2 f2 (by simp) (fun _ => by simp)]
  have heq : (Op.equal t (.bool b) (.bool c)).run P w = .ok (b == c) w := by
    show (Op.equalIn (9999 + 1) t _ _).run P w = _
    unfold Op.equalIn
    simp [run_underlying g1, hd]
  cases neg <;> simp at q0 <;> subst q0
  · exact quietV h (y := .bool (b == c)) (by simp [binOp, heq]) (by cases b <;> cases c <;> rfl)
  · exact quietV h (y := .bool (!(b == c))) (by simp [binOp, heq]) (by cases b <;> cases c <;> rfl)

/-! ### Stores -/
theorem st_some {b o : Nat} {ws : List AV} {H' : AH} (h : H.st b o ws = some H') : ∃ vs, ∃ ty, H.view b = some (.cells false vs ty) ∧ H.may b = true ∧ (∀ v ∈ ws, v.one = true) ∧ o + ws.length ≤ vs.length ∧
    H' = H.setB b (.cells false (vs.take o ++ ws ++ vs.drop (o + ws.length)) ty) := by
  unfold AH.st at h
  obtain ⟨x, hv, hx⟩ := obind_eq_some.1 h
  obtain ⟨ro, vs, ty, rfl, hc⟩ := cellsK_some hx
  rw [ifb_none_eq_some', ifb_none_eq_some, ifb_none_eq_some] at hc
  obtain ⟨rfl, hm, ho, hc⟩ := hc
  obtain ⟨vs', h1, h2⟩ := obind_eq_some.1 hc
  rw [over_eq] at h1
  split at h1 <;> simp at h1
  rename_i hle
  subst h1
  cases h2
  exact ⟨vs, ty, hv, hm, allOne_iff.1 ho, hle, by simp [ABlk.ty]⟩

theorem VRs.ones {xs : List AV} {ys : List Value} (h : VRs μ xs ys) (ho : ∀ v ∈ xs, v.one = true) : ∀ y ∈ ys, y.oneCell' = true := by
  induction xs generalizing ys with
  | nil => cases h; simp
  | cons x xs ih =>
    obtain ⟨y, r, h1, h2, h3⟩ := h; subst h1
    intro z hz
    simp at hz
    rcases hz with rfl | hz
    · exact h2.one (ho x (by simp))
    · exact ih h3 (fun v hv => ho v (by simp [hv])) z hz

/-- Cells are stored. -/
theorem storeCells_sound (h : HR CR B H μ w) {b off : Nat} {e : Img} (hm : μ b = some e) {ws : List AV} {ys : List Value} (hv : VRs μ ws ys) {H' : AH} (hst : H.st b off ws = some H') :
    ∃ w', (storeCells ⟨e.c, e.d + off, none⟩ ys).run P w = .ok () w' ∧ HR CR B H' μ w' ∧ Ext H μ w H' μ w' := by
  obtain ⟨vs, ty, hview, hmay, ho, hle, rfl⟩ := st_some hst
  obtain ⟨cs, t, fz, h1, h2, h3, h4, h5⟩ := h.blk b e _ hm hview
  have hl := h3.length
  have hlw := hv.length
  simp at hl
  have hrun := run_storeCells_un (P := P) e.c (e.d + off) t fz ys 0 cs w h1 (by omega) (hv.ones ho) (h4 rfl)
  refine ⟨_, hrun, ?_⟩
  refine upd_sound h hm hview rfl hmay rfl (setRow_size _ _ _) (fun c hc => setRow_other _ _ _ _ hc) ⟨_, t, fz, setRow_heap w e.c cs _ t fz h1, ?_, ?_, ?_, (by
    have e1 : (vs.take off ++ ws ++ vs.drop (off + ws.length)).length = vs.length := by simp; omega
    have e2 : (cs.toList.take (e.d + off + 0) ++ ys ++ cs.toList.drop (e.d + off + 0 + ys.length)).toArray.size = cs.size := by simp; omega
    rw [e1, e2]; exact h5)⟩
  · simp; omega
  · refine VRs.of ?_ fun i x y hx hy => ?_
    · simp; omega
    · have hlen : (vs.take off ++ ws ++ vs.drop (off + ws.length)).length = vs.length := by simp; omega
      rw [hlen] at hy
      rw [List.getElem?_take] at hy; split at hy <;> first | cases hy | skip
      rename_i hi
      rw [List.getElem?_drop] at hy
      simp only [List.append_assoc, Nat.add_zero] at hx hy
      by_cases c1 : i < off
      · rw [List.getElem?_append_left (by simp; omega), List.getElem?_take, if_pos c1] at hx
        rw [List.getElem?_append_left (by simp; omega), List.getElem?_take, if_pos (by omega)] at hy
        obtain ⟨z, hz, hr⟩ := h3.get hx
        rw [List.getElem?_take, if_pos hi, List.getElem?_drop, hy] at hz
        cases hz; exact hr
      · by_cases c2 : i < off + ws.length
        · rw [List.getElem?_append_right (by simp; omega), List.getElem?_append_left (by simp; omega)] at hx
          rw [List.getElem?_append_right (by simp; omega), List.getElem?_append_left (by simp; omega)] at hy
          obtain ⟨z, hz, hr⟩ := hv.get hx
          have e1 : e.d + i - (List.take (e.d + off) cs.toList).length = i - (List.take off vs).length := by simp; omega
          rw [e1, hz] at hy; cases hy; exact hr
        · rw [List.getElem?_append_right (by simp; omega), List.getElem?_append_right (by simp; omega), List.getElem?_drop] at hx
          rw [List.getElem?_append_right (by simp; omega), List.getElem?_append_right (by simp; omega), List.getElem?_drop] at hy
          have e1 : off + ws.length + (i - (List.take off vs).length - ws.length) = i := by simp; omega
          have e2 : e.d + off + ys.length + (e.d + i - (List.take (e.d + off) cs.toList).length - ys.length) = e.d + i := by simp; omega
          rw [e1] at hx; rw [e2] at hy
          obtain ⟨z, hz, hr⟩ := h3.get hx
          rw [List.getElem?_take, if_pos hi, List.getElem?_drop, hy] at hz
          cases hz; exact hr
  · intro _ k hk; exact h4 rfl k (by simp at hk; omega)

theorem s_store (hT : TTok tt P) (hF : FR N μ τ a.tmps) (h : HR CR B H μ w) {n : Nat} {x y : Opd} (hc : cStore tt n x y o.op = some u) (hr : rStore n x y τ H = some out) : Good CR B H μ w ((execOp a.eval o).run P w) out := by
  unfold cStore at hc
  split at hc <;> first | cases hc | skip
  rename_i t x' y' ho
  obtain ⟨s, i, g1, g2, g3, g4, g5, g6⟩ := onT_some hT hc
  rw [yes?_some] at g6; simp only [Bool.and_eq_true] at g6
  obtain ⟨k1, k2, k3⟩ := g6
  have k3 : s.size = n := by simpa using k3
  unfold rStore at hr
  obtain ⟨c, off, e, e1, e2, e3, e4⟩ := (ckO_sound hF k1).ptrE hr
  rw [ifb_none_eq_some] at e4
  obtain ⟨hlen, e4⟩ := e4
  have hlen : (y.ev τ).cells.length = n := by simpa using hlen
  obtain ⟨H', hst, hh⟩ := obind_eq_some.1 e4; cases hh
  have hdef : y.ev τ ≠ .undef := by
    intro hu; rw [hu] at hst
    obtain ⟨_, _, _, _, hone, _⟩ := st_some hst
    have := hone .undef (by simp [AV.cells])
    cases this
  have hv := (ckO_sound hF k2).cells hdef
  intro hf
  obtain ⟨w', r1, r2, r3⟩ := storeCells_sound (P := P) h e2 hv hst
  refine ⟨w', μ, ?_, r2, r3⟩
  have hsz : (a.eval y').cells.size = i.size := by have := hv.length; simp at this; omega
  simp [execOp, ho, Instr.storeAt, e3, Instr.sureAddr, storeVar, run_sizeOf' g2, hsz, r1]
end
end Go.Ai
