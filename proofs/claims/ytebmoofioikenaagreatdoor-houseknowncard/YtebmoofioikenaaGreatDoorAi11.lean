/- Single operations: equality of values, maps. -/
import Derived.Test.YtebmoofioikenaaGreatDoorAi10
import Derived.MapKept
import Derived.Laws.StructEq
namespace Go.Ai
open Go Go.MapKept

section
variable (tt : TT)
def cEqAgg (neg : Bool) (ks : List Nat) (x y : Opd) : Op → Option Unit
  | .binOp op t a b _ => onT tt t fun s => yes? (decide (op = (if neg then .neq else .eql)) && (ckO x a && (ckO y b && decide (s.key = some (true, ks)))))
  | _ => none
def isConst : Operand → Bool
  | .const _ => true
  | _ => false
def cEqNil (k : Nat) (neg : Bool) (x y : Opd) : Op → Option Unit
  | .binOp op t a b _ => onT tt t fun s => yes? (decide (op = (if neg then .neq else .eql)) && (ckO x a && (ckO y b && (match s.desc with
    | .pointer _ => Nat.beq k 0
    | .slice _ => Nat.beq k 1
    | .map _ _ => Nat.beq k 2
    | .func _ _ _ => Nat.beq k 3
    | .interface _ => Nat.beq k 4 && (isConst a || isConst b)
    | _ => false))))
  | _ => none
def cLookup (agg : Bool) (ks : List Nat) (zero : AV) (ok : Bool) (m k : Opd) : Op → Option Unit
  | .lookup t a b c => onT tt t fun s => match s.desc with
    | .map kt et => onT tt kt fun sk => onT tt et fun se => se.zero.bind fun z => yes? (ckO m a && (ckO k b && (ok == c && (ckV zero z && decide (sk.key = some (agg, ks))))))
    | _ => none
  | _ => none
def cMapUpdate (agg : Bool) (ks : List Nat) (m k v : Opd) : Op → Option Unit
  | .mapUpdate t a b c => onT tt t fun s => match s.desc with
    | .map kt _ => onT tt kt fun sk => yes? (ckO m a && (ckO k b && (ckO v c && decide (sk.key = some (agg, ks)))))
    | _ => none
  | .insert t a b c => onT tt t fun s => match s.desc with
    | .map kt _ => onT tt kt fun sk => yes? (ckO m a && (ckO k b && (ckO v c && decide (sk.key = some (agg, ks)))))
    | _ => none
  | _ => none
end

section
variable {tt : TT} {CR : CRel} {B N : Nat} {P : Program} {H : AH} {μ : Mu} {w : World} {τ : Fr AV} {a : Act} {u : Unit} {out : Out} {o : Oper}

theorem inK_wf {k : IntKind} {n : Int} (h : inK k n = true) : (Lit.int k n).wf = true := by
  unfold inK at h
  rw [ifb_eq] at h
  split at h
  · rename_i h1
    rw [ileb_eq] at h h1
    simp only [decide_eq_true_eq] at h h1
    have e1 : loK k = k.min := by cases k <;> decide
    have e2 : hiK k = k.max := by cases k <;> decide
    simp only [Lit.wf, Bool.and_eq_true, decide_eq_true_eq]
    rw [← e1, ← e2]; exact ⟨h1, h⟩
  · cases h

theorem cellEq_sound {k : Nat} {X Y : AV} {x y : Value} {t : Bool} (hx : VR μ X x) (hy : VR μ Y y) (h : cellEq k X Y = some t) : fitC k x = true ∧ fitC k y = true ∧ (t = true ↔ x = y) := by
  unfold cellEq at h
  rw [ifb_eq] at h
  split at h
  · rename_i hk; have hk : k = 8 := by simpa using hk
    subst hk
    obtain ⟨p, rfl, rfl, h⟩ := hx.bool h
    obtain ⟨q, rfl, rfl, h⟩ := hy.bool h
    cases h
    refine ⟨rfl, rfl, ?_⟩
    cases p <;> cases q <;> simp
  · rw [ifb_eq] at h
    split at h
    · rename_i hk; have hk : k = 9 := by simpa using hk
      subst hk
      obtain ⟨p, rfl, rfl, h⟩ := hx.str h
      obtain ⟨q, rfl, rfl, h⟩ := hy.str h
      rw [ifb_none_eq_some, ifb_none_eq_some] at h
      obtain ⟨l1, l2, h⟩ := h
      cases h
      have l1 := Nat.le_of_ble_eq_true l1
      have l2 := Nat.le_of_ble_eq_true l2
      have hs : ∀ l : List UInt8, (⟨l.toArray⟩ : ByteArray).size = l.length := fun l => by show l.toArray.size = _; simp
      refine ⟨by simp [fitC, hs, maxLen]; omega, by simp [fitC, hs, maxLen]; omega, ?_⟩
      rw [eqB_eq]; simp
    · obtain ⟨k1, p, rfl, rfl, h⟩ := hx.int h
      obtain ⟨k2, q, rfl, rfl, h⟩ := hy.int h
      rw [ifb_none_eq_some, ifb_none_eq_some, ifb_none_eq_some, ifb_none_eq_some] at h
      obtain ⟨h1, h2, w1, w2, h⟩ := h
      cases h
      have w1 := inK_wf w1
      have w2 := inK_wf w2
      have h1 : kNum k1 = k := by simpa using h1
      have h2 : kNum k2 = k := by simpa using h2
      refine ⟨by simp [fitC, h1, w1], by simp [fitC, h2, w2], ?_⟩
      have : k1 = k2 := by
        rw [← h2] at h1
        cases k1 <;> cases k2 <;> first | rfl | (simp [kNum] at h1)
      subst this
      rw [ieqb_eq]; simp

theorem eqK_sound : ∀ {ks : List Nat} {xs ys : List AV} {vs ws : List Value} {t : Bool}, VRs μ xs vs → VRs μ ys ws → eqK ks xs ys = some t → fitCs ks vs = true ∧ fitCs ks ws = true ∧ (t = true ↔ vs = ws)
  | [], [], [], vs, ws, t, h1, h2, h => by cases h1; cases h2; cases h; exact ⟨rfl, rfl, by simp⟩
  | k :: ks, x :: xs, y :: ys, vs, ws, t, ⟨v, vs', e1, h1, h1'⟩, ⟨v', ws', e2, h2, h2'⟩, h => by
    subst e1 e2
    have h : (cellEq k x y).obind (fun t => (eqK ks xs ys).obind fun r => some (and t r)) = some t := h
    obtain ⟨s, g1, h⟩ := obind_eq_some.1 h
    obtain ⟨r, g2, h⟩ := obind_eq_some.1 h
    cases h
    obtain ⟨a1, a2, a3⟩ := cellEq_sound h1 h2 g1
    obtain ⟨b1, b2, b3⟩ := eqK_sound h1' h2' g2
    refine ⟨by simp [fitCs, a1, b1], by simp [fitCs, a2, b2], ?_⟩
    simp [a3, b3]
  | [], [], _ :: _, _, _, _, _, _, h => by cases h
  | [], _ :: _, _, _, _, _, _, _, h => by cases h
  | _ :: _, [], _, _, _, _, _, _, h => by cases h
  | _ :: _, _ :: _, [], _, _, _, _, _, h => by cases h

theorem eqV_sound {agg : Bool} {ks : List Nat} {X Y : AV} {x y : Value} {t : Bool} (hx : VR μ X x) (hy : VR μ Y y) (h : eqV agg ks X Y = some t) : FitV agg ks x ∧ FitV agg ks y ∧ (t = true ↔ x = y) := by
  unfold eqV at h
  rw [ifb_eq] at h
  unfold FitV
  split at h
  · rename_i ha; simp only [ha, if_true]
    obtain ⟨xs, vs, rfl, rfl, h1, h⟩ := hx.aggE h
    obtain ⟨ys, ws, rfl, rfl, h2, h⟩ := hy.aggE h
    obtain ⟨g1, g2, g3⟩ := eqK_sound h1 h2 h
    refine ⟨⟨vs, rfl, g1⟩, ⟨ws, rfl, g2⟩, ?_⟩
    rw [g3]; simp
  · rename_i ha; simp only [ha]
    exact cellEq_sound hx hy h

theorem bool_iff {r : Bool} {p : Prop} {t : Bool} (h1 : r = true ↔ p) (h2 : t = true ↔ p) : r = t := by
  rw [Bool.eq_iff_iff, h1, h2]

theorem s_eqAgg (hT : TTok tt P) (hF : FR N μ τ a.tmps) (h : HR CR B H μ w) {neg : Bool} {ks : List Nat} {x y : Opd} (hc : cEqAgg tt neg ks x y o.op = some u) (hr : rEqAgg neg ks x y τ H = some out) : Good CR B H μ w ((execOp a.eval o).run P w) out := by
  unfold cEqAgg at hc
  split at hc <;> first | cases hc | skip
  rename_i op t x' y' yt ho
  obtain ⟨s, g6, g1, g7⟩ := onT_key hT hc
  rw [yes?_some] at g6; simp only [Bool.and_eq_true, decide_eq_true_eq] at g6
  obtain ⟨rfl, q1, q2, q3⟩ := g6
  have K := g7 _ q3
  unfold rEqAgg at hr
  obtain ⟨t', h1, h2⟩ := obind_eq_some.1 hr; cases h2
  obtain ⟨f1, f2, f3⟩ := eqV_sound (ckO_sound hF q1) (ckO_sound hF q2) h1
  obtain ⟨r, e1, e2⟩ := K.eq w _ _ f1 f2
  have e3 := bool_iff e2 f3
  subst e3
  obtain ⟨vs, ev, _⟩ := f1
  obtain ⟨ws, ew, _⟩ := f2
  refine quietV h (y := .bool (xor neg r)) ?_ rfl
  rw [ev, ew] at e1
  have hg := run_eqGuard_agg (P := P) (w := w) (if neg then .neq else .eql) t x' y' vs ws (K.grd rfl)
  cases neg
  · simp at hg; simp [execOp, ho, ev, ew, hg, binOp, e1]
  · simp at hg; simp [execOp, ho, ev, ew, hg, binOp, e1]

/-! ### Maps -/
theorem findK_sound {agg : Bool} {ks : List Nat} {X : AV} {x : Value} (hx : VR μ X x) : ∀ {es : List (AV × AV)} {ms : List MapEntry} {r : Option AV}, MR μ es ms → findK agg ks X es = some r →
    (∀ m ∈ ms, FitV agg ks m.key) ∧ (match r with | none => ∀ m ∈ ms, m.key ≠ x | some v => ∃ (i : Nat) (m : MapEntry), ms[i]? = some m ∧ m.key = x ∧ VR μ v m.val ∧ ∀ (j : Nat) (m' : MapEntry), j < i → ms[j]? = some m' → m'.key ≠ x)
  | [], ms, r, h, hf => by cases h; cases hf; exact ⟨by simp, by simp⟩
  | e :: es, ms, r, ⟨m, ms', e1, h1, h2, h3⟩, hf => by
    subst e1
    have hf : (eqV agg ks X e.1).obind (fun t => (findK agg ks X es).obind fun r => ifb t (some (some e.2)) (some r)) = some r := hf
    obtain ⟨t, g1, hf⟩ := obind_eq_some.1 hf
    obtain ⟨r', g2, hf⟩ := obind_eq_some.1 hf
    obtain ⟨_, f2, f3⟩ := eqV_sound hx h1 g1
    obtain ⟨k1, k2⟩ := findK_sound hx h3 g2
    refine ⟨by simpa using ⟨f2, k1⟩, ?_⟩
    cases t
    · cases hf
      have hne : m.key ≠ x := fun q => by have := f3.2 q.symm; cases this
      cases r with
      | none => simpa using ⟨hne, k2⟩
      | some v =>
        obtain ⟨i, m', c1, c2, c3, c4⟩ := k2
        refine ⟨i + 1, m', by simpa using c1, c2, c3, fun j m'' hj hm => ?_⟩
        cases j with
        | zero => simp at hm; subst hm; exact hne
        | succ j => exact c4 j m'' (by omega) (by simpa using hm)
    · cases hf
      exact ⟨0, m, rfl, (f3.1 rfl).symm, h2, fun j _ hj => by omega⟩

theorem findKey_run {agg : Bool} {ks : List Nat} {t : TypeId} (K : KT P t agg ks) {X : AV} {x : Value} (hx : VR μ X x) (hfit : FitV agg ks x) {es : List (AV × AV)} {ms : List MapEntry} {r : Option AV} (h : MR μ es ms) (hf : findK agg ks X es = some r) :
    match r with
    | none => (Instr.findKey t x ms).run P w = .ok none w
    | some v => ∃ (i : Nat) (m : MapEntry), (Instr.findKey t x ms).run P w = .ok (some (i, m.val)) w ∧ ms[i]? = some m ∧ m.key = x ∧ VR μ v m.val ∧ ∀ (j : Nat) (m' : MapEntry), j < i → ms[j]? = some m' → m'.key ≠ x := by
  obtain ⟨h1, h2⟩ := findK_sound hx h hf
  rcases K.find w x ms hfit h1 with ⟨a1, a2⟩ | ⟨i, m, a1, a2, a3, a4⟩
  · cases r with
    | none => exact a1
    | some v =>
      obtain ⟨i, m, c1, c2, _⟩ := h2
      exact absurd c2 (a2 m (List.mem_of_getElem? c1))
  · cases r with
    | none => exact absurd a3 (h2 m (List.mem_of_getElem? a2))
    | some v =>
      obtain ⟨i', m', c1, c2, c3, c4⟩ := h2
      have : i = i' := by
        rcases Nat.lt_trichotomy i i' with q | q | q
        · exact absurd a3 (c4 i m q a2)
        · exact q
        · exact absurd c2 (a4 i' m' q c1)
      subst this
      rw [a2] at c1; cases c1
      exact ⟨i, m, a1, a2, a3, c3, c4⟩

theorem sameBits_fit {n k : Nat} {v : Value} (h : fitC k v = true) : Instr.sameBits n v v = true := by
  cases v <;> simp [fitC] at h
  · cases n <;> simp [Instr.sameBits]
  · cases n <;> simp [Instr.sameBits]
  · rename_i b
    have := (bytes_beq b b).2 rfl
    cases n <;> exact this

theorem sameBits_fits {n : Nat} : ∀ {ks : List Nat} {vs : List Value}, fitCs ks vs = true → (vs.zip vs).all (fun x => Instr.sameBits n x.1 x.2) = true
  | [], [], _ => rfl
  | k :: ks, v :: vs, h => by
    simp [fitCs] at h
    simp only [List.zip_cons_cons, List.all_cons, Bool.and_eq_true]
    exact ⟨sameBits_fit h.1, sameBits_fits h.2⟩
  | [], _ :: _, h => by simp [fitCs] at h
  | _ :: _, [], h => by simp [fitCs] at h

theorem sameBits_fitV {agg : Bool} {ks : List Nat} {v : Value} (h : FitV agg ks v) : Instr.sameBits 10000 v v = true := by
  unfold FitV at h
  split at h
  · obtain ⟨ys, rfl, h⟩ := h
    have := sameBits_fits (n := 9999) h
    show (ys.size == ys.size && (ys.toList.zip ys.toList).all fun (x, y) => Instr.sameBits 9999 x y) = true
    simp only [beq_self_eq_true, Bool.true_and]
    exact this
  · exact sameBits_fit h

theorem putK_sound {agg : Bool} {ks : List Nat} {X V : AV} {x v : Value} (hx : VR μ X x) (hv : VR μ V v) : ∀ {es es' : List (AV × AV)} {ms : List MapEntry}, MR μ es ms → putK agg ks X V es = some es' →
    ∃ r, findK agg ks X es = some r ∧ (match r with
      | none => ∀ born, MR μ es' (ms ++ [{ key := x, val := v, born }])
      | some _ => ∀ (i : Nat) (m : MapEntry), ms[i]? = some m → m.key = x → (∀ (j : Nat) (m' : MapEntry), j < i → ms[j]? = some m' → m'.key ≠ x) → MR μ es' (ms.modify i fun e => { e with key := x, val := v }))
  | [], es', ms, h, hp => by
    cases h; cases hp
    exact ⟨none, rfl, fun born => ⟨_, _, rfl, hx, hv, rfl⟩⟩
  | e :: es, es', ms, ⟨m, ms', e1, h1, h2, h3⟩, hp => by
    subst e1
    have hp : (eqV agg ks X e.1).obind (fun t => ifb t ((findK agg ks X es).obind fun _ => some ((X, V) :: es)) ((putK agg ks X V es).obind fun r => some (e :: r))) = some es' := hp
    obtain ⟨t, g1, hp⟩ := obind_eq_some.1 hp
    obtain ⟨_, _, f3⟩ := eqV_sound hx h1 g1
    have hfk : findK agg ks X (e :: es) = (eqV agg ks X e.1).obind (fun t => (findK agg ks X es).obind fun r => ifb t (some (some e.2)) (some r)) := rfl
    cases t
    · have hp : (putK agg ks X V es).obind (fun r => some (e :: r)) = some es' := hp
      obtain ⟨r', g2, hp⟩ := obind_eq_some.1 hp
      cases hp
      obtain ⟨r, k1, k2⟩ := putK_sound hx hv h3 g2
      refine ⟨r, by rw [hfk, g1, k1]; rfl, ?_⟩
      have hne : m.key ≠ x := fun q => by have := f3.2 q.symm; cases this
      cases r with
      | none => exact fun born => ⟨m, _, rfl, h1, h2, k2 born⟩
      | some r =>
        intro i m' c1 c2 c3
        cases i with
        | zero => simp at c1; subst c1; exact absurd c2 hne
        | succ i =>
          rw [List.modify_succ_cons]
          exact ⟨m, _, rfl, h1, h2, k2 i m' (by simpa using c1) c2 fun j m'' hj hm => c3 (j + 1) m'' (by omega) (by simpa using hm)⟩
    · have hp : (findK agg ks X es).obind (fun _ => some ((X, V) :: es)) = some es' := hp
      obtain ⟨r', g2, hp⟩ := obind_eq_some.1 hp
      cases hp
      refine ⟨some e.2, by rw [hfk, g1, g2]; rfl, fun i m' c1 c2 c3 => ?_⟩
      cases i with
      | zero =>
        rw [List.modify_zero_cons]
        exact ⟨_, _, rfl, hx, hv, h3⟩
      | succ i => exact absurd (f3.1 rfl).symm (c3 0 m (by omega) rfl)

theorem foundV_sound {zero : AV} {z : Value} (hz : VR μ zero z) {ok : Bool} {r : Option AV} {v : Value} (hr : ∀ x, r = some x → VR μ x v) : VR μ (foundV zero ok r) (if ok then .tuple #[if r.isSome then v else z, .bool r.isSome] else (if r.isSome then v else z)) := by
  cases r with
  | none => cases ok
            · simpa [foundV] using hz
            · exact ⟨_, rfl, _, _, rfl, by simpa using hz, _, _, rfl, rfl, rfl⟩
  | some x => cases ok
              · simpa [foundV] using hr x rfl
              · exact ⟨_, rfl, _, _, rfl, by simpa using hr x rfl, _, _, rfl, rfl, rfl⟩

theorem s_lookup (hT : TTok tt P) (hF : FR N μ τ a.tmps) (h : HR CR B H μ w) {agg : Bool} {ks : List Nat} {zero : AV} {ok : Bool} {m k : Opd} (hc : cLookup tt agg ks zero ok m k o.op = some u) (hr : rLookup agg ks zero ok m k τ H = some out) : Good CR B H μ w ((execOp a.eval o).run P w) out := by
  unfold cLookup at hc
  split at hc <;> first | cases hc | skip
  rename_i t m' k' c ho
  obtain ⟨s, i, g1, g2, g3, g4, g5, g6⟩ := onT_some hT hc
  split at g6 <;> first | cases g6 | skip
  rename_i kt et hd
  obtain ⟨sk, g6, k1, k2⟩ := onT_key hT g6
  obtain ⟨se, ie, l1, l2, l3, l4, l5, g6⟩ := onT_some hT g6
  obtain ⟨z, hz, g6⟩ := Option.bind_eq_some_iff.1 g6
  rw [yes?_some] at g6; simp only [Bool.and_eq_true, decide_eq_true_eq] at g6
  obtain ⟨q1, q2, q3, q4, q5⟩ := g6
  have q3 : ok = c := by simpa using q3
  subst q3
  have K := k2 _ q5
  unfold rLookup at hr
  obtain ⟨t0, e0, hr⟩ := obind_eq_some.1 hr
  have hk := ckO_sound hF q2
  obtain ⟨hfit, _, _⟩ := eqV_sound hk hk e0
  obtain ⟨r, e1, hr, hm⟩ := (ckO_sound hF q1).mapE hr
  have hzr := run_zeroValue' (w := w) l2 (l5.trans hz)
  have hzv := ckV_sound μ _ _ q4
  cases r with
  | none =>
    have hm : a.eval m' = .map none := hm
    have hr : some (Out.val (foundV zero ok none) H) = some out := hr
    cases hr
    refine quietV h ?_ (foundV_sound (v := .nilIface) hzv (fun x hx => by cases hx))
    have hf : (Instr.findKey kt (a.eval k') []).run P w = .ok none w := findKey_run K hk hfit (es := []) rfl rfl
    cases ok <;> simp [execOp, ho, Instr.lookup, run_underlying g1, hd, hm, K.chk w _ _ hfit, hf, hzr]
  | some r =>
    obtain ⟨e, hme, hm⟩ := hm
    have hr : (H.view r).obind (fun x => x.mapK fun es => (findK agg ks (k.ev τ) es).obind fun r => some (Out.val (foundV zero ok r) H)) = some out := hr
    obtain ⟨x, hv, hr⟩ := obind_eq_some.1 hr
    obtain ⟨es, rfl, hr⟩ := mapK_some hr
    obtain ⟨rr, hf, hr⟩ := obind_eq_some.1 hr
    cases hr
    obtain ⟨ms, clock, n1, n2⟩ := h.blk r e _ hme hv
    have hrun := findKey_run (P := P) (w := w) K hk hfit n2 hf
    have hgo := run_getObj_map (P := P) n1
    cases rr with
    | none =>
      refine quietV h ?_ (foundV_sound (v := .nilIface) hzv (fun x hx => by cases hx))
      have hrun : (Instr.findKey kt (a.eval k') ms.toList).run P w = .ok none w := hrun
      cases ok <;> simp [execOp, ho, Instr.lookup, run_underlying g1, hd, hm, hgo, K.chk w _ _ hfit, hrun, hzr]
    | some v =>
      obtain ⟨i, m, hrun, _, _, hval, _⟩ := hrun
      refine quietV h ?_ (foundV_sound (v := m.val) hzv (fun x hx => by cases hx; exact hval))
      cases ok <;> simp [execOp, ho, Instr.lookup, run_underlying g1, hd, hm, hgo, K.chk w _ _ hfit, hrun]

theorem s_mapUpdate (hT : TTok tt P) (hF : FR N μ τ a.tmps) (h : HR CR B H μ w) {agg : Bool} {ks : List Nat} {m k v : Opd} (hc : cMapUpdate tt agg ks m k v o.op = some u) (hr : rMapUpdate agg ks m k v τ H = some out) : Good CR B H μ w ((execOp a.eval o).run P w) out := by
  have key : ∃ t x y z, (o.op = .mapUpdate t x y z ∨ o.op = .insert t x y z) ∧ ∃ kt et, P.underlying t = some (.map kt et) ∧ ckO m x = true ∧ ckO k y = true ∧ ckO v z = true ∧ KT P kt agg ks := by
    unfold cMapUpdate at hc
    split at hc <;> first | cases hc | skip
    all_goals
      rename_i t x y z ho
      obtain ⟨s, i, g1, g2, g3, g4, g5, g6⟩ := onT_some hT hc
      split at g6 <;> first | cases g6 | skip
      rename_i kt et hd
      obtain ⟨sk, g6, k1, k2⟩ := onT_key hT g6
      rw [yes?_some] at g6; simp only [Bool.and_eq_true, decide_eq_true_eq] at g6
      obtain ⟨q1, q2, q3, q4⟩ := g6
      exact ⟨t, x, y, z, by simp [ho], kt, et, by rw [g1, hd], q1, q2, q3, k2 _ q4⟩
  obtain ⟨t, x, y, z, ho, kt, et, hu, q1, q2, q3, K⟩ := key
  unfold rMapUpdate at hr
  obtain ⟨t0, e0, hr⟩ := obind_eq_some.1 hr
  have hk := ckO_sound hF q2
  have hvv := ckO_sound hF q3
  obtain ⟨hfit, _, _⟩ := eqV_sound hk hk e0
  obtain ⟨r, e1, hr, hm⟩ := (ckO_sound hF q1).mapE hr
  obtain ⟨r, er, hr2⟩ := obind_eq_some.1 hr
  subst er
  obtain ⟨xb, hv, hr⟩ := obind_eq_some.1 hr2
  obtain ⟨es, ees, hr3⟩ := mapK_some hr
  subst ees
  rw [ifb_none_eq_some] at hr3
  obtain ⟨hmay, hr⟩ := hr3
  obtain ⟨es', hp, hr4⟩ := obind_eq_some.1 hr
  cases hr4
  obtain ⟨e, hme, hm⟩ := hm
  obtain ⟨ms, clock, n1, n2⟩ := h.blk r e _ hme hv
  obtain ⟨rr, hf, hput⟩ := putK_sound hk hvv n2 hp
  have hrun := findKey_run (P := P) (w := w) K hk hfit n2 hf
  have hgo := run_getObj_map (P := P) n1
  have fin : ∀ (ms' : Array MapEntry) (clock' : Nat), MR μ es' ms'.toList → (execOp a.eval o).run P w = .ok .skip { w with heap := w.heap.setIfInBounds e.c (.map ms' clock') } → Good CR B H μ w ((execOp a.eval o).run P w) (.skip (H.setB r (.map es'))) := by
    intro ms' clock' hms hrun' _
    obtain ⟨k1, k2⟩ := heap_set (o' := .map ms' clock') n1
    obtain ⟨p1, p2⟩ := upd_sound (w' := { w with heap := w.heap.setIfInBounds e.c (.map ms' clock') }) h hme hv rfl hmay (x' := .map es') rfl (by simp) k2 ⟨ms', clock', k1, hms⟩
    exact ⟨_, μ, hrun', p1, p2⟩
  have hexec : (execOp a.eval o).run P w = ((Instr.mapUpdate t (a.eval x) (a.eval y) (a.eval z)).run P w).andThen fun _ w' => .ok .skip w' := by
    rcases ho with ho | ho <;> simp [execOp, ho]
  cases rr with
  | none =>
    have hrun : (Instr.findKey kt (a.eval y) ms.toList).run P w = .ok none w := hrun
    refine fin (ms.push { key := a.eval y, val := a.eval z, born := clock }) (clock + 1) (by simpa using hput clock) ?_
    rw [hexec]
    simp [Instr.mapUpdate, run_underlying hu, hm, hgo, K.chk w _ _ hfit, hrun, run_setObj_map _ n1]
  | some vv =>
    obtain ⟨i, m', hrun, c1, c2, _, c4⟩ := hrun
    refine fin (ms.modify i fun e => { e with key := a.eval y, val := a.eval z }) clock (by simpa using hput i m' c1 c2 c4) ?_
    rw [hexec]
    have c1' : ms[i]? = some m' := by simpa using c1
    have hst : (Instr.keyThatStays (a.eval y) (a.eval y)).run P w = .ok (a.eval y) w := by simp [Instr.keyThatStays, sameBits_fitV hfit]
    simp [Instr.mapUpdate, run_underlying hu, hm, hgo, K.chk w _ _ hfit, hrun, c1', c2, hst, run_setObj_map _ n1]

theorem eqIn_ptr {t el : TypeId} (n : Nat) (g : P.underlying t = some (.pointer el)) (a b : Option Addr) (h : a = none ∨ b = none) : (Op.equalIn (n + 1) t (.pointer a) (.pointer b)).run P w = .ok (a.isNone && b.isNone) w := by
  rcases h with rfl | rfl
  · simp [Op.equalIn, run_underlying g]
  · cases a <;> simp [Op.equalIn, run_underlying g]
theorem eqIn_sl {t el : TypeId} (n : Nat) (g : P.underlying t = some (.slice el)) (a b : Option Addr × Nat × Nat) (h : a.1 = none ∨ b.1 = none) :
    (Op.equalIn (n + 1) t (.slice a.1 a.2.1 a.2.2) (.slice b.1 b.2.1 b.2.2)).run P w = .ok (a.1.isNone && b.1.isNone) w := by
  obtain ⟨a, a1, a2⟩ := a
  obtain ⟨b, b1, b2⟩ := b
  rcases h with h | h
  · cases h; simp [Op.equalIn, run_underlying g]
  · cases h; cases a <;> simp [Op.equalIn, run_underlying g]
theorem eqIn_map {t k el : TypeId} (n : Nat) (g : P.underlying t = some (.map k el)) (a b : Option Nat) (h : a = none ∨ b = none) : (Op.equalIn (n + 1) t (.map a) (.map b)).run P w = .ok (a.isNone && b.isNone) w := by
  rcases h with rfl | rfl
  · simp [Op.equalIn, run_underlying g]
  · cases a <;> simp [Op.equalIn, run_underlying g]
def isNilFn : Value → Option Bool
  | .nilFunc => some true
  | .func _ _ _ => some false
  | _ => none
theorem eqIn_fn {t : TypeId} {f1 f2 : Array TypeId} {f3 : Bool} (n : Nat) (g : P.underlying t = some (.func f1 f2 f3)) (a b : Value) {p q : Bool} (ha : isNilFn a = some p) (hb : isNilFn b = some q) (h : (p || q) = true) : (Op.equalIn (n + 1) t a b).run P w = .ok (p && q) w := by
  cases a <;> simp [isNilFn] at ha <;> cases b <;> simp [isNilFn] at hb <;> subst ha hb <;> simp at h <;> simp [Op.equalIn, run_underlying g]
def isNilIf : Value → Option Bool
  | .nilIface => some true
  | .iface _ _ => some false
  | _ => none
theorem eqIn_if {t : TypeId} {ms : Array (String × TypeId)} (n : Nat) (g : P.underlying t = some (.interface ms)) (a b : Value) {p q : Bool} (ha : isNilIf a = some p) (hb : isNilIf b = some q) (h : (p || q) = true) : (Op.equalIn (n + 1) t a b).run P w = .ok (p && q) w := by
  cases a <;> simp [isNilIf] at ha <;> cases b <;> simp [isNilIf] at hb <;> subst ha hb <;> simp at h <;> simp [Op.equalIn, run_underlying g]

theorem nilOf_ptr {X : AV} {p : Bool} (h : nilOf 0 X = some p) : ∃ a, X = .ptr a ∧ a.isNone = p := by
  cases X <;> first | exact ⟨_, rfl, Option.some.inj h⟩ | cases h

theorem s_eqNil (hT : TTok tt P) (hF : FR N μ τ a.tmps) (h : HR CR B H μ w) {k : Nat} {neg : Bool} {x y : Opd} (hc : cEqNil tt k neg x y o.op = some u) (hr : rEqNil k neg x y τ H = some out) : Good CR B H μ w ((execOp a.eval o).run P w) out := by
  unfold cEqNil at hc
  split at hc <;> first | cases hc | skip
  rename_i op t x' y' yt ho
  obtain ⟨s, i, g1, g2, g3, g4, g5, g6⟩ := onT_some hT hc
  rw [yes?_some] at g6; simp only [Bool.and_eq_true, decide_eq_true_eq] at g6
  obtain ⟨rfl, q1, q2, q3⟩ := g6
  have hx := ckO_sound hF q1
  have hy := ckO_sound hF q2
  unfold rEqNil at hr
  obtain ⟨p, hp, hr⟩ := obind_eq_some.1 hr
  obtain ⟨q, hq, hr⟩ := obind_eq_some.1 hr
  rw [ifb_none_eq_some] at hr
  obtain ⟨hor, hr⟩ := hr
  cases hr
  have fin : (eqGuard (if neg then .neq else .eql) t x' y' (a.eval x') (a.eval y')).run P w = .ok () w → (Op.equal t (a.eval x') (a.eval y')).run P w = .ok (p && q) w → (∀ k n, a.eval x' ≠ .int k n) → (∀ k n, a.eval x' ≠ .float k n) → (∀ k n m, a.eval x' ≠ .complex k n m) → (∀ s, a.eval x' ≠ .string s) →
      Good CR B H μ w ((execOp a.eval o).run P w) (.val (.bool (xor neg (and p q))) H) := by
    intro h1 h2 n1 n2 n3 n4
    refine quietV h (y := .bool (xor neg (p && q))) ?_ rfl
    cases neg
    · simp only [Bool.false_eq_true, if_false] at h1
      have : (binOp .eql t (a.eval x') (a.eval y')).run P w = .ok (.bool (p && q)) w := by
        unfold binOp
        split <;> simp_all
      simp [execOp, ho, h1, this]
    · simp only [if_true] at h1
      have : (binOp .neq t (a.eval x') (a.eval y')).run P w = .ok (.bool (!(p && q))) w := by
        unfold binOp
        split <;> simp_all
      simp [execOp, ho, h1, this]
  generalize x.ev τ = X at hx hp
  generalize y.ev τ = Y at hy hq
  split at q3 <;> first | cases q3 | skip
  · rename_i el hd
    have hk : k = 0 := by simpa using q3
    subst hk
    obtain ⟨a1, ea, hp1⟩ := nilOf_ptr hp
    obtain ⟨a2, eb, hq1⟩ := nilOf_ptr hq
    subst ea eb
    replace hp := hp1
    replace hq := hq1
    cases a1 with
    | none =>
      have hx : a.eval x' = .pointer none := hx
      cases a2 with
      | none =>
        have hy : a.eval y' = .pointer none := hy
        refine fin (by rw [hx, eqGuard_at_pointer]; rfl) (by rw [hx, hy]; subst hp hq; exact eqIn_ptr 9999 (by rw [g1, hd]) _ _ (by simp)) ?_ ?_ ?_ ?_ <;> simp [hx]
      | some p2 =>
        obtain ⟨b, oo⟩ := p2
        obtain ⟨e, _, hy⟩ := hy
        refine fin (by rw [hx, eqGuard_at_pointer]; rfl) (by rw [hx, hy]; subst hp hq; exact eqIn_ptr 9999 (by rw [g1, hd]) _ _ (by simp)) ?_ ?_ ?_ ?_ <;> simp [hx]
    | some p1 =>
      obtain ⟨b, oo⟩ := p1
      obtain ⟨e, _, hx⟩ := hx
      cases a2 with
      | none =>
        have hy : a.eval y' = .pointer none := hy
        refine fin (by rw [hx, eqGuard_at_pointer]; rfl) (by rw [hx, hy]; subst hp hq; exact eqIn_ptr 9999 (by rw [g1, hd]) _ _ (by simp)) ?_ ?_ ?_ ?_ <;> simp [hx]
      | some p2 => subst hp hq; simp at hor
  · rename_i el hd
    have hk : k = 1 := by simpa using q3
    subst hk
    obtain ⟨a1, l1, c1, x1, z1, rfl, hp, hx⟩ := hx.slE (show X.slK (fun a _ _ _ _ => some a.isNone) = some p from hp)
    obtain ⟨a2, l2, c2, x2, z2, rfl, hq, hy⟩ := hy.slE (show Y.slK (fun a _ _ _ _ => some a.isNone) = some q from hq)
    simp at hp hq
    cases a1 with
    | none =>
      obtain ⟨_, _, hx⟩ := hx
      cases a2 with
      | none =>
        obtain ⟨_, _, hy⟩ := hy
        refine fin (by rw [hx, eqGuard_at_slice]; rfl) (by rw [hx, hy]; subst hp hq; exact eqIn_sl 9999 (by rw [g1, hd]) (_, _, _) (_, _, _) (by simp)) ?_ ?_ ?_ ?_ <;> simp [hx]
      | some p2 =>
        obtain ⟨b, oo⟩ := p2
        obtain ⟨e, _, hy, _⟩ := hy
        refine fin (by rw [hx, eqGuard_at_slice]; rfl) (by rw [hx, hy]; subst hp hq; exact eqIn_sl 9999 (by rw [g1, hd]) (_, _, _) (_, _, _) (by simp)) ?_ ?_ ?_ ?_ <;> simp [hx]
    | some p1 =>
      obtain ⟨b, oo⟩ := p1
      obtain ⟨e, _, hx, _⟩ := hx
      cases a2 with
      | none =>
        obtain ⟨_, _, hy⟩ := hy
        refine fin (by rw [hx, eqGuard_at_slice]; rfl) (by rw [hx, hy]; subst hp hq; exact eqIn_sl 9999 (by rw [g1, hd]) (_, _, _) (_, _, _) (by simp)) ?_ ?_ ?_ ?_ <;> simp [hx]
      | some p2 => subst hp hq; simp at hor
  · rename_i ka el hd
    have hk : k = 2 := by simpa using q3
    subst hk
    obtain ⟨a1, rfl, hp, hx⟩ := hx.mapE (show X.mapK (fun a => some a.isNone) = some p from hp)
    obtain ⟨a2, rfl, hq, hy⟩ := hy.mapE (show Y.mapK (fun a => some a.isNone) = some q from hq)
    simp at hp hq
    cases a1 with
    | none =>
      have hx : a.eval x' = .map none := hx
      cases a2 with
      | none =>
        have hy : a.eval y' = .map none := hy
        refine fin (by rw [hx, eqGuard_at_map]; rfl) (by rw [hx, hy]; subst hp hq; exact eqIn_map 9999 (by rw [g1, hd]) _ _ (by simp)) ?_ ?_ ?_ ?_ <;> simp [hx]
      | some p2 =>
        obtain ⟨e, _, hy⟩ := hy
        refine fin (by rw [hx, eqGuard_at_map]; rfl) (by rw [hx, hy]; subst hp hq; exact eqIn_map 9999 (by rw [g1, hd]) _ _ (by simp)) ?_ ?_ ?_ ?_ <;> simp [hx]
    | some p1 =>
      obtain ⟨e, _, hx⟩ := hx
      cases a2 with
      | none =>
        have hy : a.eval y' = .map none := hy
        refine fin (by rw [hx, eqGuard_at_map]; rfl) (by rw [hx, hy]; subst hp hq; exact eqIn_map 9999 (by rw [g1, hd]) _ _ (by simp)) ?_ ?_ ?_ ?_ <;> simp [hx]
      | some p2 => subst hp hq; simp at hor
  · rename_i f1 f2 f3 hd
    have hk : k = 3 := by simpa using q3
    subst hk
    have fnil : ∀ {X : AV} {v : Value} {p : Bool}, VR μ X v → nilOf 3 X = some p → (p = true ∧ v = .nilFunc) ∨ (p = false ∧ ∃ g l c, v = .func g l c) := by
      intro X v p hv hp
      cases X <;> cases hp
      · obtain ⟨fs, cs, h1, _⟩ := hv; exact .inr ⟨rfl, _, _, _, h1⟩
      · obtain ⟨e, _, h1⟩ := hv; exact .inr ⟨rfl, _, _, _, h1⟩
      · exact .inl ⟨rfl, hv⟩
    rcases fnil hx hp with ⟨rfl, ex⟩ | ⟨rfl, g, l, c, ex⟩
    · rcases fnil hy hq with ⟨rfl, ey⟩ | ⟨rfl, g', l', c', ey⟩
      · refine fin (by rw [ex, eqGuard_at_nilFunc]; rfl) (by rw [ex, ey]; exact eqIn_fn 9999 (by rw [g1, hd]) _ _ rfl rfl rfl) ?_ ?_ ?_ ?_ <;> simp [ex]
      · refine fin (by rw [ex, eqGuard_at_nilFunc]; rfl) (by rw [ex, ey]; exact eqIn_fn 9999 (by rw [g1, hd]) _ _ rfl rfl rfl) ?_ ?_ ?_ ?_ <;> simp [ex]
    · rcases fnil hy hq with ⟨rfl, ey⟩ | ⟨rfl, g', l', c', ey⟩
      · refine fin (by rw [ex, eqGuard_at_func]; rfl) (by rw [ex, ey]; exact eqIn_fn 9999 (by rw [g1, hd]) _ _ rfl rfl rfl) ?_ ?_ ?_ ?_ <;> simp [ex]
      · simp at hor
  · rename_i ms hd
    simp only [Bool.and_eq_true] at q3
    obtain ⟨q3, q4⟩ := q3
    have hk : k = 4 := by simpa using q3
    subst hk
    have inil : ∀ {X : AV} {v : Value} {p : Bool}, VR μ X v → nilOf 4 X = some p → (p = true ∧ v = .nilIface) ∨ (p = false ∧ ∃ d u, v = .iface d u) := by
      intro X v p hv hp
      cases X <;> cases hp
      · obtain ⟨y, h1, _⟩ := hv; exact .inr ⟨rfl, _, _, h1⟩
      · exact .inl ⟨rfl, hv⟩
    rcases inil hx hp with ⟨rfl, ex⟩ | ⟨rfl, g, l, ex⟩
    · rcases inil hy hq with ⟨rfl, ey⟩ | ⟨rfl, g', l', ey⟩
      · refine fin ?_ (by rw [ex, ey]; exact eqIn_if 9999 (by rw [g1, hd]) _ _ rfl rfl rfl) ?_ ?_ ?_ ?_
        · rw [ex, ey]
          cases y' <;> simp [isConst] at q4
          all_goals first
            | (rw [eqGuard_nil_constR]; rfl)
            | (cases x' <;> simp at q4; rw [eqGuard_nil_constL]; rfl)
        all_goals simp [ex]
      · refine fin (by rw [ex, ey, eqGuard_nil_iface]; rfl) (by rw [ex, ey]; exact eqIn_if 9999 (by rw [g1, hd]) _ _ rfl rfl rfl) ?_ ?_ ?_ ?_ <;> simp [ex]
    · rcases inil hy hq with ⟨rfl, ey⟩ | ⟨rfl, g', l', ey⟩
      · refine fin (by rw [ex, eqGuard_at_iface]; rfl) (by rw [ex, ey]; exact eqIn_if 9999 (by rw [g1, hd]) _ _ rfl rfl rfl) ?_ ?_ ?_ ?_ <;> simp [ex]
      · simp at hor
end
end Go.Ai
