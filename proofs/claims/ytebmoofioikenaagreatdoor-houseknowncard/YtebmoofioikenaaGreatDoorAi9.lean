/- Single operations: append. -/
import Derived.Test.YtebmoofioikenaaGreatDoorAi8
namespace Go.Ai
open Go

section
variable {tt : TT} {CR : CRel} {B N : Nat} {P : Program} {H : AH} {μ : Mu} {w : World} {τ : Fr AV} {a : Act} {u : Unit} {out : Out} {o : Oper}

/-- What is appended: its length and its cells, in any world with this memory. -/
structure Src (P : Program) (w : World) (size : Nat) (x : Value) (n : Nat) (new : Array Value) : Prop where
  len : ∀ w', w'.heap = w.heap → (Builtin.lenOf x).run P w' = .ok n w'
  cells : ∀ w', w'.heap = w.heap → (Builtin.firstCells size n x).run P w' = .ok new w'
  one : ∀ v ∈ new.toList, v.oneCell' = true

theorem cell_heap {w w' : World} (e : w'.heap = w.heap) (ad : Addr) : w'.cell? ad = w.cell? ad := by simp [World.cell?, e]

theorem VRs.bytes (s : List UInt8) : VRs μ (s.map byteV) (s.map fun b => Value.int .u8 b.toNat) := by
  induction s with
  | nil => rfl
  | cons b s ih => exact ⟨_, _, rfl, rfl, ih⟩

theorem srcCells_sound (h : HR CR B H μ w) {v : AV} {x : Value} (hv : VR μ v x) {esz n : Nat} {ws : List AV} (hs : srcCells H esz v = some (n, ws)) :
    ∃ new : Array Value, VRs μ ws new.toList ∧ new.size = n * esz ∧ (∀ w', w'.heap = w.heap → (Builtin.lenOf x).run P w' = .ok n w') ∧ (∀ w', w'.heap = w.heap → (Builtin.firstCells esz n x).run P w' = .ok new w') := by
  unfold srcCells at hs
  split at hs
  · rename_i len cp ex z
    rw [ifb_none_eq_some] at hs
    obtain ⟨h0, hs⟩ := hs; cases hs
    obtain ⟨h1, h2, h3⟩ := hv
    subst h3
    exact ⟨#[], rfl, by simp, fun w' _ => by simp [Builtin.lenOf], fun w' _ => by simp [Builtin.firstCells]⟩
  · rename_i b off len cp ex z
    rw [ifb_none_eq_some] at hs
    obtain ⟨hz, hs⟩ := hs
    have hz : z = esz := by simpa using hz
    subst hz
    obtain ⟨cs, hl, hs⟩ := obind_eq_some.1 hs; cases hs
    obtain ⟨ad, cap', h1, h2, h3, h4, h5⟩ := hv
    subst h1
    by_cases hn : n * z = 0
    · -- no cell
      have hcs : ws = [] := by
        have := hl
        unfold AH.ld at this
        obtain ⟨_, _, hx⟩ := obind_eq_some.1 this
        obtain ⟨_, _, _, _, hc⟩ := cellsK_some hx
        rw [hn] at hc; cases hc; rfl
      subst hcs
      exact ⟨#[], rfl, by simp [hn], fun w' _ => by simp [Builtin.lenOf], fun w' _ => by simp [Builtin.firstCells, hn, loadCells, loadCellsFrom]⟩
    · rcases h5 with h5 | ⟨e, m1, m2, m3⟩
      · exfalso; apply hn; have : n = 0 := by omega
        rw [this]; simp
      · obtain ⟨ys, g1, g2, g3⟩ := ld_sound h m1 hl
        refine ⟨ys.toArray, by simpa using g1, by simp [g2], fun w' _ => by simp [Builtin.lenOf], fun w' he => ?_⟩
        simp only [Builtin.firstCells, m2]
        exact run_loadCells_ld e off _ ys g2 fun i y hy => by rw [cell_heap he]; exact g3 i y hy
  · rename_i s
    rw [ifb_none_eq_some] at hs
    obtain ⟨h0, hs⟩ := hs; cases hs
    have h0 : esz = 1 := by simpa using h0
    subst h0
    have hv : x = .string ⟨s.toArray⟩ := hv
    subst hv
    have hsz : (⟨s.toArray⟩ : ByteArray).size = s.length := by show s.toArray.size = _; simp
    refine ⟨(s.map fun b => Value.int .u8 b.toNat).toArray, by simpa using VRs.bytes s, by simp, fun w' _ => by simp [Builtin.lenOf, hsz], fun w' _ => ?_⟩
    have e : ByteArray.extract ⟨s.toArray⟩ 0 s.length = ⟨s.toArray⟩ := by
      apply ByteArray.ext; rw [ByteArray.data_extract]; simp
    simp [Builtin.firstCells, e]
  · cases hs

theorem run_append_in {t t' ty el : TypeId} {i : TypeInfo} {d' : TypeDesc} (ht : P.underlying t = some (.slice el)) (ht' : P.underlying t' = some d') (hd' : ∀ k, d' ≠ .int k) (hi : P.info? el = some i)
    {ad : Option Addr} {sLen sCap n : Nat} {x : Value} {new : Array Value} (h1 : ∀ w', w'.heap = w.heap → (Builtin.lenOf x).run P w' = .ok n w') (h2 : ∀ w', w'.heap = w.heap → (Builtin.firstCells i.size n x).run P w' = .ok new w')
    (hfit : sLen + n ≤ sCap) {w' : World} (hst : ∀ b, ad = some b → (storeCells (b.add (sLen * i.size)) new.toList).run P w = .ok () w') (hn : ad = none → w' = w) :
    (Builtin.append_ #[t, t'] ty #[.slice ad sLen sCap, x]).run P w = .ok (.slice ad (sLen + n) sCap) w' := by
  cases ad with
  | none => obtain rfl := hn rfl; simp [Builtin.append_, run_underlying ht, run_underlying ht', run_sizeOf' hi, h1 _ rfl, h2 _ rfl, hfit]
  | some b => simp [Builtin.append_, run_underlying ht, run_underlying ht', run_sizeOf' hi, h1 _ rfl, h2 _ rfl, hfit, hst b rfl]

theorem run_append_out {t t' ty el : TypeId} {i : TypeInfo} {d' : TypeDesc} {z : Value} (ht : P.underlying t = some (.slice el)) (ht' : P.underlying t' = some d') (hd' : ∀ k, d' ≠ .int k) (hi : P.info? el = some i) (hz : i.zero = some z)
    {ad : Option Addr} {sLen sCap n : Nat} {x : Value} {old new : Array Value} (h1 : ∀ w', w'.heap = w.heap → (Builtin.lenOf x).run P w' = .ok n w') (h2 : ∀ w', w'.heap = w.heap → (Builtin.firstCells i.size n x).run P w' = .ok new w')
    (h3 : ∀ w', w'.heap = w.heap → (Builtin.firstCells i.size sLen (.slice ad sLen sCap)).run P w' = .ok old w') (hfit : sCap < sLen + n) (hb : (sLen + n) * i.bytes ≤ 140737488355328) (hb0 : 0 < i.bytes) :
    ∃ newCap w', sLen + n ≤ newCap ∧ (Builtin.append_ #[t, t'] ty #[.slice ad sLen sCap, x]).run P w = .ok (.slice (some ⟨w.heap.size, 0, none⟩) (sLen + n) newCap) w' ∧
      w'.heap = w.heap.push (.cells (old ++ new ++ Builtin.zeroCells z.cells (newCap - (sLen + n))) el) ∧ w'.os = w.os ∧ w'.output = w.output := by
  have hfit' : ¬ (sLen + n ≤ sCap) := by omega
  have hgrow := growslice_fits (bytes := i.bytes) hfit hb
  have hc : ¬ (281474976710656 < Builtin.nextslicecap (sLen + n) sCap * i.bytes) := by omega
  have hp : (2 : Nat) ^ 48 = 281474976710656 := by decide
  refine ⟨(Question.appendCap (sLen + n) sCap el).cut (w.tape w.drawn (.appendCap (sLen + n) sCap el)),
    ({ w with drawn := w.drawn + 1 } : World).alloc (.cells (old ++ new ++ Builtin.zeroCells z.cells ((Question.appendCap (sLen + n) sCap el).cut (w.tape w.drawn (.appendCap (sLen + n) sCap el)) - (sLen + n))) el), ?_, ?_, rfl, rfl, rfl⟩
  · show _ ≤ (sLen + n) + _; omega
  · have hfo : (Question.appendCap (sLen + n) sCap el).forced = false := rfl
    have ask : ∀ b w', (askRoom b).run P w' = .ok () w' := fun b w' => by unfold askRoom; split <;> simp [mark, Sem.run]
    have hne : i.bytes ≠ 0 := by omega
    simp [Builtin.append_, run_underlying ht, run_underlying ht', run_sizeOf' hi, h1 _ rfl, hfit',
      run_typeInfo' hi, hne, hc, ask, hfo, h3 w.drew rfl, h2 w.drew rfl, run_zeroValue' hi hz, newRow]

theorem appendV_cases {s : AV} {esz bytes ety n : Nat} {ws : List AV} (hr : appendV H s esz bytes ety n ws = some out) :
    ∃ p len cap ex z, s = .sl p len cap ex z ∧
      ((n = 0 ∧ out = .val s H ∧ (p = none → len = 0) ∧ (p ≠ none → z = esz)) ∨
       (n ≠ 0 ∧ p = none ∧ len = 0 ∧ (n + 1000) * bytes ≤ 35184372088832 ∧ newSl H n esz ws ety = some out) ∨
       (n ≠ 0 ∧ ∃ b o, p = some (b, o) ∧ z = esz ∧ appendAt H b o len cap ex esz bytes ety n ws = some out)) := by
  unfold appendV at hr
  cases s <;> simp only [AV.slK] at hr <;> first | cases hr | skip
  rename_i p len cap ex z
  refine ⟨p, len, cap, ex, z, rfl, ?_⟩
  cases p with
  | none =>
    simp only at hr
    rw [ifb_none_eq_some] at hr
    obtain ⟨h0, hr⟩ := hr
    have h0 : len = 0 := by simpa using h0
    rw [ifb_eq] at hr; split at hr
    · rename_i hn; have hn : n = 0 := by simpa using hn
      cases hr; exact .inl ⟨hn, rfl, fun _ => h0, fun g => absurd rfl g⟩
    · rename_i hn; have hn : n ≠ 0 := by simpa using hn
      rw [ifb_none_eq_some] at hr
      exact .inr (.inl ⟨hn, rfl, h0, Nat.le_of_ble_eq_true hr.1, hr.2⟩)
  | some q =>
    obtain ⟨b, off⟩ := q
    simp only at hr
    rw [ifb_none_eq_some] at hr
    obtain ⟨h0, hr⟩ := hr
    have h0 : z = esz := by simpa using h0
    rw [ifb_eq] at hr; split at hr
    · rename_i hn; have hn : n = 0 := by simpa using hn
      cases hr; exact .inl ⟨hn, rfl, fun g => (by cases g), fun _ => h0⟩
    · rename_i hn; have hn : n ≠ 0 := by simpa using hn
      exact .inr (.inr ⟨hn, b, off, rfl, h0, hr⟩)

theorem mul_le_room {n m bytes : Nat} (h : (n + 1000) * bytes ≤ 35184372088832) (hm : m ≤ n) : m * bytes ≤ 140737488355328 := by
  have : m * bytes ≤ (n + 1000) * bytes := Nat.mul_le_mul_right _ (by omega)
  omega

theorem s_append (hT : TTok tt P) (hF : FR N μ τ a.tmps) (h : HR CR B H μ w) {esz bytes ety : Nat} {s x : Opd} (hc : cAppend tt esz bytes ety s x o.op = some u) (hr : rAppend esz bytes ety s x τ H = some out) :
    Good CR B H μ w ((execOp a.eval o).run P w) out := by
  unfold cAppend at hc
  split at hc <;> first | cases hc | skip
  rename_i as ts ho
  split at hc <;> first | cases hc | skip
  rename_i s' x' t t' has hts
  obtain ⟨e, ii, g1, g2, g3, g4, g5, g6⟩ := onT_some hT hc
  have has : as = #[s', x'] := by cases as; simp_all
  have hts : ts = #[t, t'] := by cases ts; simp_all
  subst has hts
  have hexec := call_builtin (P := P) (w := w) (a := a) (f := Builtin.append_) ho (fun _ _ => rfl)
  split at g6 <;> first | cases g6 | skip
  rename_i el hd
  obtain ⟨z, i, k1, k2, k3, k4, k5, k6⟩ := onT_some hT g6
  obtain ⟨e', i', l1, l2, l3, l4, l5, l6⟩ := onT_some hT k6
  split at l6
  · cases l6
  rename_i hnint
  obtain ⟨zv, hzv, l6⟩ := Option.bind_eq_some_iff.1 l6
  rw [yes?_some] at l6; simp only [Bool.and_eq_true] at l6
  obtain ⟨q1, q2, q3, q4, q5, q6, q7⟩ := l6
  have hety0 : ety = 0 ∨ ety = 3 * el + 3 := by
    simp only [Bool.or_eq_true] at q7
    exact q7.imp (fun g => by simpa using g) fun g => (by simpa using g)
  have q1 : i.size = esz := by rw [k3]; simpa using q1
  have q2 : i.bytes = bytes := by rw [k4]; simpa using q2
  have q5 : zv.cells.size = esz := by simpa using q5
  have hz : i.zero = some zv := k5.trans hzv
  have hd1 : P.underlying t = some (.slice el) := by rw [g1, hd]
  have hs := ckO_sound hF q3
  have hx := ckO_sound hF q4
  unfold rAppend at hr
  obtain ⟨⟨n, ws⟩, hsrc, hr⟩ := obind_eq_some.1 hr
  simp only at hr
  obtain ⟨new, n1, n2, n3, n4⟩ := srcCells_sound (P := P) h hx hsrc
  have n4' : ∀ w', w'.heap = w.heap → (Builtin.firstCells i.size n (a.eval x')).run P w' = .ok new w' := by rw [q1]; exact n4
  have hwl := n1.length
  have hexec' : (execOp a.eval o).run P w = ((Builtin.append_ #[t, t'] o.type #[a.eval s', a.eval x']).run P w).andThen fun r w' => .ok (.value r) w' := by rw [hexec]; simp
  rw [hexec']
  obtain ⟨p, len, cap, ex, zz, hsv, hcase⟩ := appendV_cases hr
  rw [hsv] at hs
  -- a slice that grows into a new row
  have grow : ∀ (H₁ : AH) (ad : Option Addr) (sCap : Nat) (old : Array Value) (ov : List AV), a.eval s' = .slice ad len sCap → HR CR B H₁ μ w → H₁.next = H.next → VRs μ ov old.toList →
      (∀ w', w'.heap = w.heap → (Builtin.firstCells i.size len (.slice ad len sCap)).run P w' = .ok old w') → old.size = len * esz → sCap < len + n → (len + n) * bytes ≤ 140737488355328 → 0 < bytes → μ H.next = none → ∀ ty : Nat, (ty = 0 ∨ ty = 3 * el + 3) →
      ∃ y w' μ', (((Builtin.append_ #[t, t'] o.type #[a.eval s', a.eval x']).run P w).andThen fun r w' => Result.ok (Next.value r) w') = .ok (.value y) w' ∧ VR μ' (.sl (some (H.next, 0)) (len + n) (len + n) false esz) y ∧
        HR CR B (H₁.alloc (.cells false (ov ++ ws) ty)) μ' w' ∧ Ext H₁ μ w (H₁.alloc (.cells false (ov ++ ws) ty)) μ' w' := by
    intro H₁ ad sCap old ov hval h₁ hnx hov hold hosz hcap hb hb0 hfr ty hty
    obtain ⟨newCap, w', c1, c2, c3, c4⟩ := run_append_out (w := w) (ty := o.type) hd1 l1 hnint k2 hz n3 n4' hold hcap (by rw [q2]; exact hb) (by rw [q2]; exact hb0)
    have hov' := hov.append n1
    have hl' := hov'.length
    have hcs : (old ++ new ++ Builtin.zeroCells zv.cells (newCap - (len + n))).size = newCap * esz := by
      have : (len + n) * esz + (newCap - (len + n)) * esz = newCap * esz := by rw [← Nat.add_mul]; congr 1; omega
      simp [Builtin.zeroCells, q5, hosz, n2]
      rw [Nat.add_mul] at this; omega
    obtain ⟨m1, m2⟩ := newRow_sound (w' := w') h₁ (t := el) (cs := old ++ new ++ Builtin.zeroCells zv.cells (newCap - (len + n))) (vs := ov ++ ws) (by
      rw [← hl']; simp only [Array.toList_append]
      rw [List.take_left]; exact hov') (by rw [← hl']; simp) c3 (by rw [hnx]; exact hfr) c4 ty (hty.imp id .inr)
    refine ⟨_, w', _, by rw [hval, c2]; rfl, ?_, m1, m2⟩
    refine ⟨_, newCap, rfl, Nat.le_refl _, c1, fun g => (by cases g), .inr ⟨_, by rw [← hnx]; exact Mu.add_same _ _ _, by simp, by rw [hcs]; show 0 + newCap * esz ≤ newCap * esz; omega⟩⟩
  rcases hcase with ⟨hn, rfl, e1, e2⟩ | ⟨hn, rfl, hl0, hb, hr⟩ | ⟨hn, b, off, rfl, hzz, hr⟩
  · -- nothing is appended
    subst hn
    have hnew : new.toList = [] := by have : new.size = 0 := by simp [n2]
                                      simpa using this
    cases p with
    | none =>
      obtain ⟨s1, s2, s3⟩ := hs
      subst s1
      refine quietV h (y := .slice none 0 0) ?_ (by rw [hsv]; exact ⟨rfl, s2, rfl⟩)
      rw [s3, run_append_in (P := P) (w := w) (w' := w) (ty := o.type) hd1 l1 hnint k2 n3 n4' (Nat.le_refl _) (fun b hb => by cases hb) (fun _ => rfl)]
      rfl
    | some q =>
      obtain ⟨b, off⟩ := q
      obtain ⟨ad, cap', s1, s2, s3, s4, s5⟩ := hs
      refine quietV h (y := .slice (some ad) len cap') ?_ (by rw [hsv]; exact ⟨ad, cap', rfl, s2, s3, s4, s5⟩)
      rw [s1, run_append_in (P := P) (w := w) (w' := w) (ty := o.type) hd1 l1 hnint k2 n3 n4' (by omega) (fun b _ => by rw [hnew]; rfl) (fun g => by cases g)]
      rfl
  · -- onto nil
    subst hl0
    obtain ⟨s1, s2, s3⟩ := hs
    unfold newSl at hr; cases hr
    intro hf
    obtain ⟨y, w', μ', c1, c2, c3, c4⟩ := grow H none 0 #[] [] s3 h rfl rfl (fun w' _ => by simp [Builtin.firstCells]) (by simp) (by omega) (mul_le_room hb (by omega)) (Nat.le_of_ble_eq_true q6) (fresh_alloc hf) ety hety0
    refine ⟨y, w', μ', c1, ?_, by simpa using c3, by simpa using c4⟩
    have e0 : (0 + n) = n := by omega
    rw [e0] at c2; exact c2
  · -- onto a row
    subst hzz
    obtain ⟨ad, cap', s1, s2, s3, s4, s5⟩ := hs
    unfold appendAt at hr
    rw [ifb_eq] at hr
    split at hr
    · -- there is room
      rename_i hroom
      have hroom := Nat.le_of_ble_eq_true hroom
      obtain ⟨H', hst, hr⟩ := obind_eq_some.1 hr
      cases hr
      rcases s5 with s5 | ⟨im, m1, m2, m3⟩
      · omega
      · intro hf
        obtain ⟨w', r1, r2, r3⟩ := storeCells_sound (P := P) h m1 n1 hst
        refine ⟨.slice (some ad) (len + n) cap', w', μ, ?_, ⟨ad, cap', rfl, hroom, s3, s4, .inr ⟨im, m1, m2, m3⟩⟩, r2, r3⟩
        rw [s1, run_append_in (P := P) (w := w) (w' := w') (ty := o.type) hd1 l1 hnint k2 n3 n4' (by omega) (fun b hb => by
          cases hb; rw [m2, addr_add, q1, Nat.add_assoc]; exact r1) (fun g => by cases g)]
        rfl
    · rename_i hnoroom
      have hnoroom : cap < len + n := by
        apply Nat.lt_of_not_le; intro g; exact hnoroom (Nat.ble_eq_true_of_le g)
      rw [ifb_none_eq_some] at hr
      obtain ⟨hb, hr⟩ := hr
      have hb := mul_le_room (Nat.le_of_ble_eq_true hb) (Nat.le_refl _)
      have hb0 := Nat.le_of_ble_eq_true q6
      obtain ⟨ov, hld, hr⟩ := obind_eq_some.1 hr
      -- the old cells
      have hold : ∃ old : Array Value, VRs μ ov old.toList ∧ old.size = len * zz ∧ ∀ w', w'.heap = w.heap → (Builtin.firstCells i.size len (.slice (some ad) len cap')).run P w' = .ok old w' := by
        by_cases h0 : len * zz = 0
        · have : ov = [] := by
            have := hld
            unfold AH.ld at this
            obtain ⟨_, _, hx⟩ := obind_eq_some.1 this
            obtain ⟨_, _, _, _, hc⟩ := cellsK_some hx
            rw [h0] at hc; cases hc; rfl
          subst this
          exact ⟨#[], rfl, by simp [h0], fun w' _ => by simp [Builtin.firstCells, q1, h0, loadCells, loadCellsFrom]⟩
        · rcases s5 with s5 | ⟨im, m1, m2, m3⟩
          · exfalso; apply h0; have : len = 0 := by omega
            rw [this]; simp
          · obtain ⟨ys, y1, y2, y3⟩ := ld_sound h m1 hld
            refine ⟨ys.toArray, by simpa using y1, by simp [y2], fun w' he => ?_⟩
            simp only [Builtin.firstCells, m2, q1]
            exact run_loadCells_ld im off _ ys y2 fun j y hy => by rw [cell_heap he]; exact y3 j y hy
      obtain ⟨old, o1, o2, o3⟩ := hold
      cases ex with
      | true =>
        simp only [ifb_true] at hr
        unfold newSl at hr; cases hr
        intro hf
        have hcc := s4 rfl
        exact grow H (some ad) cap' old ov s1 h rfl o1 o3 o2 (by omega) hb hb0 (fresh_alloc hf) ety hety0
      | false =>
        simp only [ifb_false] at hr
        rw [ifb_none_eq_some] at hr
        obtain ⟨hall, hr⟩ := hr
        obtain ⟨H₁, hkill, hr⟩ := obind_eq_some.1 hr
        unfold AH.kill at hkill
        obtain ⟨bx, hview, hk⟩ := obind_eq_some.1 hkill
        obtain ⟨ro, vs, ty, rfl, hk'⟩ := cellsK_some hk
        rw [ifb_none_eq_some', ifb_none_eq_some] at hk'
        obtain ⟨rfl, hmay, hk'⟩ := hk'
        cases hk'
        unfold newSl at hr; cases hr
        intro hf
        have hf : μ H.next = none := hf _ (by simp) (by simp)
        have htyo : H.tyOf b = ty := by unfold AH.tyOf; rw [hview]; rfl
        rw [htyo]
        have hnt : ifb (Nat.beq ty ety) (ifb (Nat.beq off 0) ety 0) 0 = 0 ∨ (ifb (Nat.beq ty ety) (ifb (Nat.beq off 0) ety 0) 0 = ty ∧ ty = ety ∧ off = 0) := by
          rw [ifb_eq]; split
          · rename_i g; have g : ty = ety := by simpa using g
            rw [ifb_eq]; split
            · rename_i g2; have g2 : off = 0 := by simpa using g2
              exact .inr ⟨g.symm, g, g2⟩
            · exact .inl rfl
          · exact .inl rfl
        generalize ifb (Nat.beq ty ety) (ifb (Nat.beq off 0) ety 0) 0 = nty at hnt ⊢
        obtain ⟨hk1, hk2⟩ := kill_sound h b
        by_cases hin : len + n ≤ cap'
        · -- in place
          rcases s5 with s5 | ⟨im, m1, m2, m3⟩
          · omega
          · obtain ⟨cs, ct, fz, b1, b2, b3, b4, b5⟩ := h.blk b im _ m1 hview
            have hl3 := b3.length
            simp at hl3
            have hmulle : (len + n) * zz ≤ cap' * zz := Nat.mul_le_mul_right _ hin
            have hmul : (len + n) * zz = len * zz + n * zz := Nat.add_mul _ _ _
            have hone := n1.ones (allOne_iff.1 hall)
            have hrun := run_storeCells_un (P := P) im.c (im.d + off + len * zz) ct fz new.toList 0 cs w b1 (by simp [n2]; omega) hone (b4 rfl)
            -- what was read
            have hov : VRs μ ov (((cs.toList.drop im.d).take vs.length).drop off |>.take (len * zz)) ∧ off + len * zz ≤ vs.length ∨ len * zz = 0 ∧ ov = [] := by
              unfold AH.ld at hld
              rw [hview] at hld
              have hld : takeN (len * zz) (dropN off vs) = some ov := hld
              rw [dropN_eq, takeN_eq] at hld
              split at hld <;> simp at hld
              rename_i hlen; simp at hlen
              by_cases h0 : len * zz = 0
              · exact .inr ⟨h0, by rw [← hld, h0]; rfl⟩
              · refine .inl ⟨hld ▸ (b3.drop off).take _, by omega⟩
            have hovl : ov.length = len * zz := by rw [← o2]; have := o1.length; simp at this; omega
            obtain ⟨p1, p2⟩ := move_sound (w' := w.setRow im.c (cs.toList.take (im.d + off + len * zz + 0) ++ new.toList ++ cs.toList.drop (im.d + off + len * zz + 0 + new.toList.length)).toArray) h m1 hview rfl hmay (x' := .cells false (ov ++ ws) nty) rfl hf ⟨im.c, im.d + off, im.n - off⟩ rfl (setRow_size _ _ _) (fun c hc => setRow_other _ _ _ _ hc)
              ⟨_, ct, fz, setRow_heap w im.c cs _ ct fz b1, by simp [n2]; omega, (by
                  have hle := μ.le_add H.next ⟨im.c, im.d + off, im.n - off⟩ hf
                  refine VRs.mono hle _ _ ?_
                  simp only [Nat.add_zero, List.append_assoc]
                  rw [List.drop_append_of_le_length (by simp; omega), List.length_append, hovl, hwl.symm]
                  rw [List.take_append]
                  have e1 : (List.drop (im.d + off) (List.take (im.d + off + len * zz) cs.toList)).length = len * zz := by simp; omega
                  rw [List.take_of_length_le (by rw [e1]; omega), e1]
                  rw [show len * zz + new.toList.length - len * zz = new.toList.length from by omega, List.take_left]
                  refine VRs.append ?_ n1
                  rcases hov with ⟨v1, v2⟩ | ⟨v1, v2⟩
                  · have e2 : (((cs.toList.drop im.d).take vs.length).drop off).take (len * zz) = List.drop (im.d + off) (List.take (im.d + off + len * zz) cs.toList) := by
                      apply List.ext_getElem?
                      intro j
                      simp only [List.getElem?_take, List.getElem?_drop]
                      by_cases hj : j < len * zz
                      · rw [if_pos hj, if_pos (by omega), if_pos (by omega)]; congr 1; omega
                      · rw [if_neg hj, if_neg (by omega)]
                    rw [← e2]; exact v1
                  · subst v2
                    rw [List.drop_eq_nil_of_le (by simp; omega)]; rfl
              ), fun _ k hk => b4 rfl k (by simp [n2] at hk; omega), (by
                  rcases hnt with g | ⟨g1, g2, g3⟩
                  · exact .inl g
                  · rw [g1]
                    rcases b5 with b5 | b5 | b5 | b5
                    · exact .inl b5
                    · exact .inr (.inl b5)
                    · rcases hety0 with k | k
                      · exact .inl (by omega)
                      · omega
                    · exact .inr (.inr (.inr ⟨b5.1, by show im.d + off = 0; rw [b5.2, g3]⟩)))⟩
            · refine ⟨.slice (some ad) (len + n) cap', w.setRow im.c (cs.toList.take (im.d + off + len * zz + 0) ++ new.toList ++ cs.toList.drop (im.d + off + len * zz + 0 + new.toList.length)).toArray, μ.add H.next ⟨im.c, im.d + off, im.n - off⟩, ?_, ⟨ad, cap', rfl, Nat.le_refl _, hin, fun g => (by cases g), .inr ⟨⟨im.c, im.d + off, im.n - off⟩, by simpa using Mu.add_same μ H.next ⟨im.c, im.d + off, im.n - off⟩, by simp [m2], by simp; omega⟩⟩, by simpa using p1, by simpa using p2⟩
              rw [s1, run_append_in (P := P) (w := w) (w' := w.setRow im.c (cs.toList.take (im.d + off + len * zz + 0) ++ new.toList ++ cs.toList.drop (im.d + off + len * zz + 0 + new.toList.length)).toArray) (ty := o.type) hd1 l1 hnint k2 n3 n4' hin (fun b hb => by
                cases hb; rw [m2, addr_add, q1]; exact hrun) (fun g => by cases g)]
              rfl
        · obtain ⟨y, w', μ', c1, c2, c3, c4⟩ := grow (H.delB b) (some ad) cap' old ov s1 hk1 (by simp) o1 o3 o2 (by omega) hb hb0 hf nty (by rcases hnt with g | ⟨g1, g2, _⟩; exact .inl g; rw [g1, g2]; exact hety0)
          refine ⟨y, w', μ', c1, by simpa using c2, c3, ?_⟩
          exact hk2.trans c4 (fun c hc1 hc2 => by simp at hc2; omega) hk1.top
end
end Go.Ai
