/- Single operations: slices, binary operations, stores, appends. -/
import Derived.Test.YtebmoofioikenaaGreatDoorAi6
namespace Go.Ai
open Go

section
variable (tt : TT)
def cSliceArr (n esz : Nat) (x : Opd) (lo hi : Option Opd) : Op → Option Unit
  | .slice t a l h none => onT tt t fun e => match e.desc with
    | .array len el => onT tt el fun s => yes? (Nat.beq len n && (Nat.beq s.size esz && (ckO x a && (ckOo lo l && (ckOo hi h && Nat.blt 0 (n * esz))))))
    | .pointer arr => onT tt arr fun e' => match e'.desc with
      | .array len el => onT tt el fun s => yes? (Nat.beq len n && (Nat.beq s.size esz && (ckO x a && (ckOo lo l && (ckOo hi h && Nat.blt 0 (n * esz))))))
      | _ => none
    | _ => none
  | _ => none
def cLen (k : Nat) (x : Opd) : Op → Option Unit
  | .call { callee := .builtin .len, args := as, argTypes := ts } => match as.toList, ts.toList with
    | [a], [t] => onT tt t fun e => match e.desc with
      | .string => yes? (Nat.beq k 0 && ckO x a)
      | .slice _ => yes? (Nat.beq k 1 && ckO x a)
      | .map _ _ => yes? (Nat.beq k 2 && ckO x a)
      | _ => none
    | _, _ => none
  | _ => none
def cLenArr (n : Nat) : Op → Option Unit
  | .call { callee := .builtin .len, args := as, argTypes := ts } => match as.toList, ts.toList with
    | [_], [t] => onT tt t fun e => match e.desc with
      | .array m _ => yes? (Nat.beq n m)
      | .pointer p => onT tt p fun e' => match e'.desc with
        | .array m _ => yes? (Nat.beq n m)
        | _ => none
      | _ => none
    | _, _ => none
  | _ => none
end

section
variable {tt : TT} {CR : CRel} {B N : Nat} {P : Program} {H : AH} {μ : Mu} {w : World} {τ : Fr AV} {a : Act} {u : Unit} {out : Out} {o : Oper}

theorem s_mkMap (hT : TTok tt P) (h : HR CR B H μ w) (hc : cMkMap tt o.op = some u) (hr : rMkMap τ H = some out) : Good CR B H μ w ((execOp a.eval o).run P w) out := by
  cases hr
  have key : ∀ run : Result Next, run = .ok (.value (.map (some w.heap.size))) (w.alloc (.map #[] 0)) → Good CR B H μ w run (.val (.map (some H.next)) (H.alloc (.map []))) := by
    intro run hrun hf
    obtain ⟨h1, h2⟩ := alloc_sound (w' := w.alloc (.map #[] 0)) h (fresh_alloc hf) (.map #[] 0) (.map []) 0 rfl ⟨#[], 0, by show (w.heap.push _)[w.heap.size]? = _; simp, rfl⟩ rfl
    exact ⟨_, _, _, hrun, ⟨_, Mu.add_same _ _ _, rfl⟩, h1, h2⟩
  unfold cMkMap at hc
  split at hc <;> first | cases hc | skip
  · rename_i t ho
    exact key _ (by simp [execOp, ho, Instr.makeMap])
  · rename_i t k n ho
    obtain ⟨s, ii, g1, g2, g3, g4, g5, g6⟩ := onT_some hT hc
    split at g6 <;> first | cases g6 | skip
    rename_i kk vv hd
    exact key _ (by simp [execOp, ho, Instr.makeMap, run_underlying g1, hd, Act.eval, asInt, asIntOf])

theorem s_sliceSl (hT : TTok tt P) (hF : FR N μ τ a.tmps) (h : HR CR B H μ w) {esz : Nat} {x : Opd} {lo hi mx : Option Opd} (hc : cSliceSl tt esz x lo hi mx o.op = some u) (hr : rSliceSl esz x lo hi mx τ H = some out) : Good CR B H μ w ((execOp a.eval o).run P w) out := by
  unfold cSliceSl at hc
  split at hc <;> first | cases hc | skip
  rename_i t y l hh mm ho
  obtain ⟨s, ii, g1, g2, g3, g4, g5, g6⟩ := onT_some hT hc
  split at g6 <;> first | cases g6 | skip
  rename_i el hd
  obtain ⟨s', i', k1, k2, k3, k4, k5, k6⟩ := onT_some hT g6
  rw [yes?_some] at k6; simp only [Bool.and_eq_true] at k6
  obtain ⟨q1, q2, q3, q4, q5, q6⟩ := k6
  have q1 : s'.size = esz := by simpa using q1
  unfold rSliceSl at hr
  obtain ⟨p, ln, cp, ex, z, e1, e2, e3⟩ := (ckO_sound hF q2).slE hr
  obtain ⟨m, em, e2⟩ := obind_eq_some.1 e2
  obtain ⟨hi', eh, e2⟩ := obind_eq_some.1 e2
  obtain ⟨lo', el', e2⟩ := obind_eq_some.1 e2
  -- the value's own parts
  obtain ⟨ad, cap', hval, hlc, hcc, hex, hrm, hnil⟩ : ∃ (ad : Option Addr) (cap' : Nat), a.eval y = .slice ad ln cap' ∧ ln ≤ cp ∧ cp ≤ cap' ∧ (ex = true → p ≠ none → cap' = cp) ∧
      (∀ q, p = some q → ∃ ad', ad = some ad' ∧ (cap' = 0 ∨ ∃ e, μ q.1 = some e ∧ ad' = ⟨e.c, e.d + q.2, none⟩ ∧ q.2 + cap' * z ≤ e.n)) ∧ (p = none → ad = none ∧ cap' = 0) := by
    cases p with
    | none => obtain ⟨h1, h2, h3⟩ := e3; subst h1 h2; exact ⟨none, 0, h3, Nat.le_refl _, Nat.le_refl _, fun _ hn => absurd rfl hn, fun q hq => (by cases hq), fun _ => ⟨rfl, rfl⟩⟩
    | some q =>
      obtain ⟨qb, qo⟩ := q
      obtain ⟨ad, cap', h1, h2, h3, h4, h5⟩ := e3
      exact ⟨some ad, cap', h1, h2, h3, fun g _ => h4 g, fun q hq => (by cases hq; exact ⟨ad, rfl, h5⟩), fun hn => (by cases hn)⟩
  have hrun : ∃ mc, (Instr.sliceBounds true ln cap' (l.map a.eval) (hh.map a.eval) (mm.map a.eval)).run P w = .ok (lo', hi', mc) w ∧ lo' ≤ hi' ∧ hi' ≤ mc ∧ mc ≤ cap' ∧ hi' ≤ m ∧ m ≤ mc ∧ m ≤ cp ∧ (mx = none → mc = cap' ∧ m = cp) ∧ (mx.isSome = true → mc = m) := by
    rcases boundO_some hF q5 em with ⟨hm1, hm2, hm3⟩ | ⟨x2, y2, k2', i2, rfl, rfl, gg, pp, qq, rr⟩
    · -- no third index
      subst hm1 hm2
      have hm3 : m = cp := hm3
      have eh : boundO τ m ln hi = some hi' := eh
      refine ⟨cap', ?_⟩
      rcases boundO_some hF q4 eh with ⟨h1, h2, h3⟩ | ⟨x3, y3, k3', i3, h1, h2, gg3, pp3, qq3, rr3⟩
      · subst h1 h2
        rcases boundO_some hF q3 el' with ⟨j1, j2, j3⟩ | ⟨x4, y4, k4', i4, j1, j2, gg4, pp4, qq4, rr4⟩
        · subst j1 j2
          exact ⟨by simp [Instr.sliceBounds, h3, j3], by omega, by omega, by omega, by omega, by omega, by omega, fun _ => ⟨rfl, hm3⟩, fun g => by simp at g⟩
        · subst j1 j2
          have qq4' : i4 ≤ ln := by omega
          exact ⟨by simp [Instr.sliceBounds, gg4, run_sliceBound _ pp4 qq4', rr4, h3], by omega, by omega, by omega, by omega, by omega, by omega, fun _ => ⟨rfl, hm3⟩, fun g => by simp at g⟩
      · subst h1 h2
        have hqc : i3 ≤ cap' := by omega
        rcases boundO_some hF q3 el' with ⟨j1, j2, j3⟩ | ⟨x4, y4, k4', i4, j1, j2, gg4, pp4, qq4, rr4⟩
        · subst j1 j2
          exact ⟨by simp [Instr.sliceBounds, gg3, run_sliceBound _ pp3 hqc, rr3, j3], by omega, by omega, by omega, by omega, by omega, by omega, fun _ => ⟨rfl, hm3⟩, fun g => by simp at g⟩
        · subst j1 j2
          exact ⟨by simp [Instr.sliceBounds, gg3, gg4, run_sliceBound _ pp3 hqc, run_sliceBound _ pp4 qq4, rr4, rr3], by omega, by omega, by omega, by omega, by omega, by omega, fun _ => ⟨rfl, hm3⟩, fun g => by simp at g⟩
    · -- a third index: the second is there, too
      have hqc : i2 ≤ cap' := by omega
      cases hi with
      | none => simp at q6
      | some hx =>
      rcases boundO_some hF q4 eh with ⟨g, _⟩ | ⟨x3, y3, k3', i3, g, rfl, gg3, pp3, qq3, rr3⟩
      · cases g
      · subst rr
        rcases boundO_some hF q3 el' with ⟨rfl, rfl, rfl⟩ | ⟨x4, y4, k4', i4, rfl, rfl, gg4, pp4, qq4, rr4⟩
        · exact ⟨i2.toNat, by simp [Instr.sliceBounds, gg, gg3, run_sliceBound _ pp hqc, run_sliceBound _ pp3 qq3, rr3], Nat.zero_le _, by omega, by omega, by omega, Nat.le_refl _, by omega, fun g => (by cases g), fun _ => rfl⟩
        · subst rr3
          exact ⟨i2.toNat, by simp [Instr.sliceBounds, gg, gg3, gg4, run_sliceBound _ pp hqc, run_sliceBound _ pp3 qq3, run_sliceBound _ pp4 qq4, rr4], by omega, by omega, by omega, by omega, Nat.le_refl _, by omega, fun g => (by cases g), fun _ => rfl⟩
  obtain ⟨mc, hrun, b1, b2, b3, b4, b5, b6, b7, b8⟩ := hrun
  have hexec : (execOp a.eval o).run P w = .ok (.value (.slice (if mc = lo' then ad else ad.map (·.add (lo' * i'.size))) (hi' - lo') (mc - lo'))) w := by
    simp [execOp, ho, Instr.sliceAt, run_underlying g1, hd, Instr.slice, hval, hrun, run_sizeOf' k2]
  unfold rSliceSl2 at e2
  cases p with
  | none =>
    simp only at e2; rw [ifb_none_eq_some] at e2
    obtain ⟨c0, e2⟩ := e2; cases e2
    obtain ⟨n1, n2⟩ := hnil rfl
    subst n1
    refine quietV h hexec ⟨rfl, rfl, ?_⟩
    have : mc = 0 ∧ hi' = 0 ∧ lo' = 0 := by omega
    obtain ⟨rfl, rfl, rfl⟩ := this
    simp
  | some q =>
    obtain ⟨qb, qo⟩ := q
    simp only at e2; rw [ifb_none_eq_some] at e2
    obtain ⟨c0, e2⟩ := e2; cases e2
    have c0 : esz = z := by simpa using c0
    subst c0
    obtain ⟨ad', rfl, hroom⟩ := hrm _ rfl
    refine quietV h hexec ?_
    by_cases hml : mc = lo'
    · rw [if_pos hml]
      exact ⟨ad', mc - lo', rfl, by omega, by omega, fun _ => by omega, .inl (by omega)⟩
    · rw [if_neg hml]
      refine ⟨ad'.add (lo' * i'.size), mc - lo', rfl, by omega, by omega, fun hx => ?_, ?_⟩
      · cases mx with
        | none =>
          obtain ⟨r1, r2⟩ := b7 rfl
          have hx : ex = true := by simpa using hx
          have := hex hx (by simp)
          omega
        | some mv => have := b8 rfl; omega
      · rcases hroom with hz | ⟨e, m1, m2, m3⟩
        · omega
        · refine .inr ⟨e, m1, ?_, ?_⟩
          · rw [m2, addr_add, k3, q1, Nat.add_assoc]
          · have hsz : i'.size = esz := k3.trans q1
            have : lo' * esz + (mc - lo') * esz = mc * esz := by rw [← Nat.add_mul]; congr 1; omega
            have : mc * esz ≤ cap' * esz := Nat.mul_le_mul_right _ b3
            omega

theorem ld_room (h : HR CR B H μ w) {b o n : Nat} {e : Img} (hm : μ b = some e) {vs : List AV} (hl : H.ld b o n = some vs) : n = 0 ∨ o + n ≤ e.n := by
  unfold AH.ld at hl
  obtain ⟨x, hv, hx⟩ := obind_eq_some.1 hl
  obtain ⟨ro, cs, ty, rfl, hc⟩ := cellsK_some hx
  rw [dropN_eq, takeN_eq] at hc
  split at hc <;> simp at hc
  rename_i hlen
  obtain ⟨cs', t, fz, h1, h2, h3, h4⟩ := h.blk b e _ hm hv
  have := h3.length
  simp at this hlen
  omega

theorem s_sliceArr (hT : TTok tt P) (hF : FR N μ τ a.tmps) (h : HR CR B H μ w) {n esz : Nat} {x : Opd} {lo hi : Option Opd}
    (hc : cSliceArr tt n esz x lo hi o.op = some u) (hr : rSliceArr n esz x lo hi τ H = some out) : Good CR B H μ w ((execOp a.eval o).run P w) out := by
  unfold cSliceArr at hc
  split at hc <;> first | cases hc | skip
  rename_i t y l hh ho
  obtain ⟨s, ii, g1, g2, g3, g4, g5, g6⟩ := onT_some hT hc
  have go : ∀ (len el : Nat) (i' : TypeInfo), P.info? el = some i' → i'.size = esz → len = n → ckO x y = true → ckOo lo l = true → ckOo hi hh = true → Nat.blt 0 (n * esz) = true →
      (∀ ad l' h', a.eval y = .pointer (some ad) → (Instr.sliceBounds false len len (l.map a.eval) (hh.map a.eval) none).run P w = .ok (l', h', len) w →
        (execOp a.eval o).run P w = .ok (.value (.slice (some (if len = l' then ad else ad.add (l' * i'.size))) (h' - l') (len - l'))) w) → Good CR B H μ w ((execOp a.eval o).run P w) out := by
    intro len el i' k2 q2 q1 q3 q4 q5 q6 hx
    have q6 := Nat.le_of_ble_eq_true q6
    subst q1
    unfold rSliceArr at hr
    obtain ⟨c, o', e', e1, e2, e3, e4⟩ := (ckO_sound hF q3).ptrE hr
    obtain ⟨h', e5, e4⟩ := obind_eq_some.1 e4
    obtain ⟨l', e6, e4⟩ := obind_eq_some.1 e4
    obtain ⟨vs, e7, e4⟩ := obind_eq_some.1 e4
    cases e4
    obtain ⟨r1, r2, r3⟩ := run_sliceBounds2 (P := P) (w := w) hF false q4 q5 (Nat.le_refl _) e5 e6
    have hrm := ld_room h e2 e7
    refine quietV h (hx _ _ _ e3 r1) ?_
    refine ⟨_, len - l', rfl, by omega, Nat.le_refl _, fun _ => rfl, ?_⟩
    by_cases hml : len = l'
    · exact .inl (by omega)
    · rw [if_neg hml]
      have hz : l' * esz + (len - l') * esz = len * esz := by rw [← Nat.add_mul]; congr 1; omega
      refine .inr ⟨e', e2, by rw [addr_add, q2, Nat.add_assoc], ?_⟩
      rcases hrm with hrm | hrm
      · omega
      · omega
  split at g6 <;> first | cases g6 | skip
  · rename_i len el hd
    obtain ⟨s', i', k1, k2, k3, k4, k5, k6⟩ := onT_some hT g6
    rw [yes?_some] at k6; simp only [Bool.and_eq_true] at k6
    obtain ⟨q1, q2, q3, q4, q5, q6⟩ := k6
    refine go len el i' k2 (by rw [k3]; simpa using q2) (by simpa using q1) q3 q4 q5 q6 fun ad l' h' had hb => ?_
    simp [execOp, ho, Instr.sliceAt, run_underlying g1, hd, had, Instr.sureAddr, hb, run_sizeOf' k2]
  · rename_i arr hd
    obtain ⟨s'', i'', kk1, kk2, kk3, kk4, kk5, kk6⟩ := onT_some hT g6
    split at kk6 <;> first | cases kk6 | skip
    rename_i len el hd'
    obtain ⟨s', i', k1, k2, k3, k4, k5, k6⟩ := onT_some hT kk6
    rw [yes?_some] at k6; simp only [Bool.and_eq_true] at k6
    obtain ⟨q1, q2, q3, q4, q5, q6⟩ := k6
    refine go len el i' k2 (by rw [k3]; simpa using q2) (by simpa using q1) q3 q4 q5 q6 fun ad l' h' had hb => ?_
    simp [execOp, ho, Instr.sliceAt, Instr.slice, run_underlying g1, hd, run_underlying kk1, hd', had, asAddr, hb, run_sizeOf' k2]

theorem call_builtin {b : Builtin} {as : Array Operand} {ts : Array TypeId} {f : Array TypeId → TypeId → Array Value → Sem Value} (ho : o.op = .call { callee := .builtin b, args := as, argTypes := ts })
    (hb : ∀ c (args : Array Value), builtin b ts o.type c args = (f ts o.type args >>= fun r => pure (Next.value r) : Sem Next)) :
    (execOp a.eval o).run P w = ((f ts o.type (as.map a.eval)).run P w).andThen fun r w' => .ok (.value r) w' := by
  simp [execOp, ho, resolve, invoke, hb]

theorem s_len (hT : TTok tt P) (hF : FR N μ τ a.tmps) (h : HR CR B H μ w) {k : Nat} {x : Opd} (hc : cLen tt k x o.op = some u) (hr : rLen k x τ H = some out) : Good CR B H μ w ((execOp a.eval o).run P w) out := by
  unfold cLen at hc
  split at hc <;> first | cases hc | skip
  rename_i as ts ho
  split at hc <;> first | cases hc | skip
  rename_i y t has hts
  obtain ⟨s, ii, g1, g2, g3, g4, g5, g6⟩ := onT_some hT hc
  have has : as = #[y] := by cases as; simp_all
  have hts : ts = #[t] := by cases ts; simp_all
  subst has hts
  have hexec := call_builtin (P := P) (w := w) (a := a) (f := Builtin.len_) ho (fun _ _ => rfl)
  unfold rLen at hr
  split at g6 <;> first | cases g6 | skip
  · rename_i hd
    rw [yes?_some] at g6; simp only [Bool.and_eq_true] at g6
    obtain ⟨q1, q2⟩ := g6
    have q1 : k = 0 := by simpa using q1
    subst q1
    obtain ⟨b, e1, e2, e3⟩ := (ckO_sound hF q2).str hr
    cases e3
    have hsz : (⟨b.toArray⟩ : ByteArray).size = b.length := by show b.toArray.size = _; simp
    refine quietV h (y := .int .i64 b.length) ?_ rfl
    rw [hexec]
    simp [Builtin.len_, run_underlying g1, hd, e2, goInt, hsz]
  · rename_i el hd
    rw [yes?_some] at g6; simp only [Bool.and_eq_true] at g6
    obtain ⟨q1, q2⟩ := g6
    have q1 : k = 1 := by simpa using q1
    subst q1
    obtain ⟨p, l, c, ex, z, e1, e2, e3⟩ := (ckO_sound hF q2).slE (β := Out) (k := fun _ n _ _ _ => some (Out.val (.int .i64 (.ofNat n)) H)) hr
    cases e2
    refine quietV h (y := .int .i64 l) ?_ rfl
    rw [hexec]
    cases p with
    | none => obtain ⟨h1, h2, h3⟩ := e3; subst h1; simp [Builtin.len_, run_underlying g1, hd, h3, goInt]
    | some q => obtain ⟨q1, q2⟩ := q; obtain ⟨ad, cap', h1, _⟩ := e3; simp [Builtin.len_, run_underlying g1, hd, h1, goInt]
  · rename_i kk vv hd
    rw [yes?_some] at g6; simp only [Bool.and_eq_true] at g6
    obtain ⟨q1, q2⟩ := g6
    have q1 : k = 2 := by simpa using q1
    subst q1
    obtain ⟨r, e1, e2, e3⟩ := (ckO_sound hF q2).mapE (β := Out) (k := fun r => Option.rec (motive := fun _ => Option Out) (some (Out.val (.int .i64 0) H)) (fun r => (H.view r).obind fun x => x.mapK fun es => some (Out.val (.int .i64 (.ofNat es.length)) H)) r) hr
    cases r with
    | none =>
      cases e2
      have e3 : a.eval y = .map none := e3
      exact quietV h (y := .int .i64 0) (by rw [hexec]; simp [Builtin.len_, run_underlying g1, hd, e3, goInt]) rfl
    | some r =>
      obtain ⟨bx, hv, e2⟩ := obind_eq_some.1 e2
      obtain ⟨es, rfl, e2⟩ := mapK_some e2
      cases e2
      obtain ⟨e', m1, m2⟩ := e3
      obtain ⟨ms, clock, n1, n2⟩ := h.blk _ _ _ m1 hv
      have hl : ms.size = es.length := by
        have : ∀ (es : List (AV × AV)) (ms : List MapEntry), MR μ es ms → ms.length = es.length := by
          intro es
          induction es with
          | nil => intro ms h; cases h; rfl
          | cons e es ih => intro ms h; obtain ⟨m, r, h1, _, _, h5⟩ := h; subst h1; simp [ih r h5]
        simpa using this es ms.toList n2
      refine quietV h (y := .int .i64 es.length) ?_ rfl
      rw [hexec]
      simp [Builtin.len_, run_underlying g1, hd, m2, goInt, getObj, Sem.run, n1, hl]

theorem s_lenArr (hT : TTok tt P) (h : HR CR B H μ w) {n : Nat} (hc : cLenArr tt n o.op = some u) (hr : rLenArr n τ H = some out) : Good CR B H μ w ((execOp a.eval o).run P w) out := by
  cases hr
  unfold cLenArr at hc
  split at hc <;> first | cases hc | skip
  rename_i as ts ho
  split at hc <;> first | cases hc | skip
  rename_i y t has hts
  obtain ⟨s, ii, g1, g2, g3, g4, g5, g6⟩ := onT_some hT hc
  have has : as = #[y] := by cases as; simp_all
  have hts : ts = #[t] := by cases ts; simp_all
  subst has hts
  have hexec := call_builtin (P := P) (w := w) (a := a) (f := Builtin.len_) ho (fun _ _ => rfl)
  split at g6 <;> first | cases g6 | skip
  · rename_i m el hd
    rw [yes?_some] at g6
    have g6 : n = m := by simpa using g6
    subst g6
    exact quietV h (y := .int .i64 n) (by rw [hexec]; simp [Builtin.len_, run_underlying g1, hd, goInt]) rfl
  · rename_i p hd
    obtain ⟨s', i', k1, k2, k3, k4, k5, k6⟩ := onT_some hT g6
    split at k6 <;> first | cases k6 | skip
    rename_i m el hd'
    rw [yes?_some] at k6
    have k6 : n = m := by simpa using k6
    subst k6
    exact quietV h (y := .int .i64 n) (by rw [hexec]; simp [Builtin.len_, run_underlying g1, hd, run_underlying k1, hd', goInt]) rfl
end
end Go.Ai
