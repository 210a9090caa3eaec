/- Single operations: clear, min, max; and all of them together. -/
import Derived.Test.YtebmoofioikenaaGreatDoorAi11
import Derived.Laws.BytesString
import Derived.Laws.RangeString
import Derived.Laws.IdiomStrings
namespace Go.Ai
open Go

section
variable (tt : TT)
def cClearSl (zero : List AV) (x : Opd) : Op → Option Unit
  | .call { callee := .builtin .clear, args := as, argTypes := ts } => match as.toList, ts.toList with
    | [a], [t] => onT tt t fun e => match e.desc with
      | .slice el => onT tt el fun z => z.zero.bind fun zv => yes? (ckO x a && ckVs zero zv.cells.toList)
      | _ => none
    | _, _ => none
  | _ => none
def cMinmax (mx : Bool) (xs : List Opd) : Op → Option Unit
  | .call { callee := .builtin b, args := as, argTypes := _ } => yes? (decide (b = (if mx then .max else .min)) && ckOs xs as.toList)
  | _ => none
end

section
variable {tt : TT} {CR : CRel} {B N : Nat} {P : Program} {H : AH} {μ : Mu} {w : World} {τ : Fr AV} {a : Act} {u : Unit} {out : Out} {o : Oper}

theorem s_clearSl (hT : TTok tt P) (hF : FR N μ τ a.tmps) (h : HR CR B H μ w) {zero : List AV} {x : Opd} (hc : cClearSl tt zero x o.op = some u) (hr : rClearSl zero x τ H = some out) : Good CR B H μ w ((execOp a.eval o).run P w) out := by
  unfold cClearSl at hc
  split at hc <;> first | cases hc | skip
  rename_i as ts ho
  split at hc <;> first | cases hc | skip
  rename_i y t has hts
  obtain ⟨s, ii, g1, g2, g3, g4, g5, g6⟩ := onT_some hT hc
  have has : as = #[y] := by cases as; simp_all
  have hts : ts = #[t] := by cases ts; simp_all
  subst has hts
  split at g6 <;> first | cases g6 | skip
  rename_i el hd
  obtain ⟨s', i', k1, k2, k3, k4, k5, k6⟩ := onT_some hT g6
  obtain ⟨z, hz, k6⟩ := Option.bind_eq_some_iff.1 k6
  rw [yes?_some] at k6; simp only [Bool.and_eq_true] at k6
  obtain ⟨q1, q2⟩ := k6
  have hexec := call_builtin (P := P) (w := w) (a := a) (f := Builtin.clear_) ho (fun _ _ => rfl)
  have hzr := run_zeroValue' (w := w) k2 (k5.trans hz)
  unfold rClearSl at hr
  obtain ⟨p, l, c, ex, zz, e1, hr, hv⟩ := (ckO_sound hF q1).slE hr
  have htup : VR μ (.tup []) (.tuple #[]) := ⟨#[], rfl, rfl⟩
  cases p with
  | none =>
    obtain ⟨h1, h2, h3⟩ := hv
    cases hr
    refine quietV h ?_ htup
    rw [hexec]
    simp [Builtin.clear_, run_underlying g1, hd, h3]
  | some p =>
    obtain ⟨b, off⟩ := p
    obtain ⟨ad, cap', h1, h2, h3, h4, h5⟩ := hv
    have hr : ifb (Nat.beq l 0) (some (Out.val (.tup []) H)) ((H.st b off (repN l zero)).obind fun H' => some (Out.val (.tup []) H')) = some out := hr
    rw [ifb_eq] at hr
    split at hr
    · rename_i hl; have hl : l = 0 := by simpa using hl
      subst hl
      cases hr
      refine quietV h ?_ htup
      rw [hexec]
      simp [Builtin.clear_, run_underlying g1, hd, h1]
    · rename_i hl
      have hl : l ≠ 0 := by simpa using hl
      obtain ⟨H', hst, hr⟩ := obind_eq_some.1 hr
      cases hr
      rcases h5 with h5 | ⟨e, m1, m2, m3⟩
      · omega
      · have hm := (ckVs_sound μ _ _ q2).made l
        obtain ⟨w', r1, r2, r3⟩ := storeCells_sound (P := P) h m1 hm hst
        intro _
        refine ⟨_, w', μ, ?_, htup, r2, r3⟩
        rw [hexec]
        cases l with
        | zero => exact absurd rfl hl
        | succ l =>
          have r1' : (storeCells ⟨e.c, e.d + off, none⟩ (Builtin.zeroCells z.cells (l + 1)).toList).run P w = .ok () w' := r1
          have : (Builtin.clear_ #[t] o.type (#[y].map a.eval)).run P w = .ok (.tuple #[]) w' := by
            unfold Builtin.clear_
            simp only [List.map_toArray, List.map_cons, List.map_nil, h1, m2]
            simp [run_underlying g1, hd, hzr, r1']
          rw [this]; rfl

theorem minmax_run (mx : Bool) : ∀ {xs : List AV} {ys : List Value} {X : AV} {y : Value} {v : AV}, VR μ X y → VRs μ xs ys → minmaxV mx X xs = some v →
    ∃ r, (ys.foldlM (if mx then Builtin.max2 else Builtin.min2) y : Sem Value).run P w = .ok r w ∧ VR μ v r
  | [], ys, X, y, v, hx, h, hm => by cases h; cases hm; exact ⟨y, by simp, hx⟩
  | x :: xs, ys, X, y, v, hx, ⟨z, r, e1, h1, h2⟩, hm => by
    subst e1
    have hm : X.intK (fun k a => x.intK fun k' b => ifb (beqK k k') (minmaxV mx (.int k (ifb mx (ifb (iltb a b) b a) (ifb (iltb b a) b a))) xs) none) = some v := hm
    obtain ⟨k, n, rfl, rfl, hm⟩ := hx.int hm
    obtain ⟨k', m, rfl, rfl, hm⟩ := h1.int hm
    rw [ifb_none_eq_some] at hm
    obtain ⟨hk, hm⟩ := hm
    obtain ⟨r', hr, hv⟩ := minmax_run mx (X := .int k (ifb mx (ifb (iltb n m) m n) (ifb (iltb m n) m n))) (y := .int k (ifb mx (ifb (iltb n m) m n) (ifb (iltb m n) m n))) rfl h2 hm
    refine ⟨r', ?_, hv⟩
    rw [List.foldlM_cons]
    cases mx
    · simp only [Bool.false_eq_true, if_false] at hr ⊢
      simp only [Builtin.min2, Sem.run_bind, Sem.run_pure, Result.andThen_ok]
      rw [← hr]
      simp [ifb_eq, iltb_eq]
    · simp only [if_true] at hr ⊢
      simp only [Builtin.max2, Sem.run_bind, Sem.run_pure, Result.andThen_ok]
      rw [← hr]
      simp [ifb_eq, iltb_eq]

theorem s_minmax (hF : FR N μ τ a.tmps) (h : HR CR B H μ w) {mx : Bool} {xs : List Opd} (hc : cMinmax mx xs o.op = some u) (hr : rMinmax mx xs τ H = some out) : Good CR B H μ w ((execOp a.eval o).run P w) out := by
  unfold cMinmax at hc
  split at hc <;> first | cases hc | skip
  rename_i b as ts ho
  rw [yes?_some] at hc; simp only [Bool.and_eq_true, decide_eq_true_eq] at hc
  obtain ⟨rfl, q⟩ := hc
  have hvs := ckOs_sound hF q
  unfold rMinmax at hr
  split at hr <;> first | cases hr | skip
  rename_i X rest hX
  obtain ⟨v, hv, rfl⟩ := valK_some hr
  rw [hX] at hvs
  obtain ⟨y, ys, e1, h1, h2⟩ := hvs
  obtain ⟨r, hr1, hr2⟩ := minmax_run (P := P) (w := w) mx h1 h2 hv
  refine quietV h (y := r) ?_ hr2
  have hal : (as.map a.eval).toList = y :: ys := by rw [Array.toList_map]; exact e1
  cases mx
  · have hexec := call_builtin (P := P) (w := w) (a := a) (f := Builtin.min_) (b := .min) (by simpa using ho) (fun _ _ => rfl)
    rw [hexec]
    simp only [Builtin.min_, hal]
    simp at hr1
    rw [hr1]; rfl
  · have hexec := call_builtin (P := P) (w := w) (a := a) (f := Builtin.max_) (b := .max) (by simpa using ho) (fun _ _ => rfl)
    rw [hexec]
    simp only [Builtin.max_, hal]
    simp at hr1
    rw [hr1]; rfl
end

/-! ### All operations -/
section
variable (tt : TT)
/-- An operation to which the machine does not come. -/
def cStuck : Op → Option Unit
  | .defer _ => none
  | _ => some ()
def cBytesToStr (x : Opd) : Op → Option Unit
  | .convert s d a => onT tt s fun e => match e.desc with
    | .slice el => onT tt el fun z => onT tt d fun f => yes? ((match z.desc with | .int .u8 => true | _ => false) && ((match f.desc with | .string => true | _ => false) && ckO x a))
    | _ => none
  | _ => none
def cLoadG (agg : Option Nat) (g : Nat) : Op → Option Unit
  | .load t (.global m) => onT tt t fun s => yes? (Nat.beq g m && (match agg with | some n => isAggD s.desc && Nat.beq s.size n | none => !isAggD s.desc))
  | _ => none
def cIdxAddrG (g n esz : Nat) (i : Opd) : Op → Option Unit
  | .indexAddr t (.global m) j => onT tt t fun s => match s.desc with
    | .array k e => onT tt e fun se => yes? (Nat.beq g m && (Nat.beq k n && (Nat.beq se.size esz && ckO i j)))
    | _ => none
  | _ => none
def cRangeStr (x : Opd) : Op → Option Unit
  | .range t a => onT tt t fun e => match e.desc with
    | .string => yes? (ckO x a)
    | _ => none
  | _ => none
def cNextStr (x : Opd) : Op → Option Unit
  | .next a true => yes? (ckO x a)
  | _ => none
def cStrToBytes (x : Opd) : Op → Option Unit
  | .convert s d a => onT tt s fun e => onT tt d fun f => match f.desc with
    | .slice el => onT tt el fun z => yes? ((match z.desc with | .int .u8 => true | _ => false) && ((match e.desc with | .string => true | _ => false) && ckO x a))
    | _ => none
  | _ => none
def cCopy (esz : Nat) (d s : Opd) : Op → Option Unit
  | .call { callee := .builtin .copy, args := as, argTypes := ts } => match as.toList, ts.toList with
    | [a, b], [t, _] => onT tt t fun e => match e.desc with
      | .slice el => onT tt el fun z => yes? (Nat.beq z.size esz && (ckO d a && ckO s b))
      | _ => none
    | _, _ => none
  | _ => none
/-- The check of an operation that is no call of a function. -/
def ckOp (x : IOp) (o : Op) : Option Unit :=
  match x with
  | .move x => cMove x o
  | .pick c a b => cPick c a b o
  | .alloc z ty => cAlloc tt z ty o
  | .box x => cBox x o
  | .build z ps => cBuild tt z ps o
  | .buildSlice z e l ps => cBuildSlice tt z e l ps o
  | .load x => cLoad tt x o
  | .loadAgg n x => cLoadAgg tt n x o
  | .store n a v => cStore tt n a v o
  | .nilCheck x => cNilCheck x o
  | .bin op x y => cBin tt op x y o
  | .eqB neg x y => cEqB tt neg x y o
  | .eqAgg neg ks x y => cEqAgg tt neg ks x y o
  | .eqNil k neg x y => cEqNil tt k neg x y o
  | .un op x => cUn op x o
  | .convInt k x => cConvInt tt k x o
  | .convStr x => cConvStr tt x o
  | .bytesToStr x => cBytesToStr tt x o
  | .strToBytes x => cStrToBytes tt x o
  | .mkIface t x => cMkIface tt t x o
  | .mkFn f a b => cMkFn f a b o
  | .mkMap => cMkMap tt o
  | .mkSlice z e b l c => cMkSlice tt z e b l c o
  | .sliceStr x l h => cSliceStr tt x l h o
  | .sliceSl e x l h m => cSliceSl tt e x l h m o
  | .sliceArr n e x l h => cSliceArr tt n e x l h o
  | .fieldAddr f x => cFieldAddr tt f x o
  | .field f g x => cField tt f g x o
  | .idxAddrArr n e x i => cIdxAddrArr tt n e x i o
  | .idxAddrSl e x i => cIdxAddrSl tt e x i o
  | .idxArr n e g x i => cIdxArr tt n e g x i o
  | .idxStr x i => cIdxStr tt x i o
  | .lookup g ks z k m i => cLookup tt g ks z k m i o
  | .mapUpdate g ks m k v => cMapUpdate tt g ks m k v o
  | .extract x i => cExtract x i o
  | .call _ _ => none
  | .len k x => cLen tt k x o
  | .lenArr n => cLenArr tt n o
  | .append e b ty s x => cAppend tt e b ty s x o
  | .copy e d s => cCopy tt e d s o
  | .clearSl z x => cClearSl tt z x o
  | .minmax m xs => cMinmax m xs o
  | .stuck => cStuck o
  | .loadG agg g => cLoadG tt agg g o
  | .idxAddrG g n e i => cIdxAddrG tt g n e i o
  | .rangeStr x => cRangeStr tt x o
  | .nextStr x => cNextStr x o
end

section
variable {tt : TT} {CR : CRel} {B N : Nat} {P : Program} {H : AH} {μ : Mu} {w : World} {τ : Fr AV} {a : Act} {u : Unit} {out : Out} {o : Oper}
theorem asBytes_ints : ∀ {vs : List AV} {ys : List Value} {s : List UInt8}, asBytes vs = some s → VRs μ vs ys → ∃ ns : List Int, ys = ns.map (Value.int .u8) ∧ s = ns.map fun n => UInt8.ofNat n.toNat := by
  intro vs
  induction vs with
  | nil => intro ys s h hv; cases h; cases hv; exact ⟨[], rfl, rfl⟩
  | cons v vs ih =>
    intro ys s h hv
    obtain ⟨y, r, e1, g1, g2⟩ := hv
    subst e1
    have h : v.intK (fun k n => ifb (beqK k .u8) ((asBytes vs).obind fun r => some (UInt8.ofNat n.toNat :: r)) none) = some s := h
    obtain ⟨k, n, rfl, rfl, hq⟩ := g1.int h
    clear h
    rw [ifb_none_eq_some] at hq
    obtain ⟨hk, hq⟩ := hq
    have hk : k = .u8 := beqK_iff.1 hk
    subst hk
    obtain ⟨r', h2, h3⟩ := obind_eq_some.1 hq
    cases h3
    obtain ⟨ns, i1, i2⟩ := ih h2 g2
    exact ⟨n :: ns, by simp [i1], by simp [i2]⟩
theorem foldl_push (ns : List Int) : ∀ b : ByteArray, ns.foldl (fun r n => r.push (UInt8.ofNat n.toNat)) b = ⟨(b.data.toList ++ ns.map fun n => UInt8.ofNat n.toNat).toArray⟩ := by
  induction ns with
  | nil => intro b; simp
  | cons n ns ih => intro b; rw [List.foldl_cons, ih]; simp [ByteArray.push]
theorem s_bytesToStr (hT : TTok tt P) (hF : FR N μ τ a.tmps) (h : HR CR B H μ w) {x : Opd} (hc : cBytesToStr tt x o.op = some u) (hr : rBytesToStr x τ H = some out) : Good CR B H μ w ((execOp a.eval o).run P w) out := by
  unfold cBytesToStr at hc
  split at hc <;> first | cases hc | skip
  rename_i t1 t2 y ho
  obtain ⟨s, i, g1, g2, g3, g4, g5, g6⟩ := onT_some hT hc
  split at g6 <;> first | cases g6 | skip
  rename_i el hd
  obtain ⟨z, iz, k1, k2, k3, k4, k5, k6⟩ := onT_some hT g6
  obtain ⟨f, jf, l1, l2, l3, l4, l5, l6⟩ := onT_some hT k6
  rw [yes?_some] at l6; simp only [Bool.and_eq_true] at l6
  obtain ⟨q1, q2, q3⟩ := l6
  have hz : P.underlying el = some (.int .u8) := by
    rw [k1]; revert q1; cases z.desc <;> simp
    rename_i k; cases k <;> simp
  have hf : P.underlying t2 = some .string := by
    rw [l1]; revert q2; cases f.desc <;> simp
  have hs : P.underlying t1 = some (.slice el) := by rw [g1, hd]
  unfold rBytesToStr at hr
  obtain ⟨p, l, c, ex, zz, e1, e2, e3⟩ := (ckO_sound hF q3).slE hr
  cases p with
  | none =>
    obtain ⟨_, _, h3⟩ := e3
    cases e2
    refine quietV h (y := .string .empty) ?_ rfl
    simp [execOp, ho, h3, run_convert_bytes_string w t1 t2 el none 0 0 hs hz hf, Conv.bytesToString]
  | some q =>
    obtain ⟨b, off⟩ := q
    obtain ⟨ad, cap', s1, s2, s3, s4, s5⟩ := e3
    have e2 : ifb (Nat.beq zz 1) ((H.ld b off l).obind fun vs => (asBytes vs).obind fun s => some (.val (.str s) H)) none = some out := e2
    rw [ifb_none_eq_some] at e2
    obtain ⟨_, e2⟩ := e2
    obtain ⟨vs, hl, e2⟩ := obind_eq_some.1 e2
    obtain ⟨str, hb, e2⟩ := obind_eq_some.1 e2
    cases e2
    have hload : ∃ ns : List Int, (loadCells ad l).run P w = .ok (ns.map (Value.int .u8)).toArray w ∧ str = ns.map fun n => UInt8.ofNat n.toNat := by
      by_cases h0 : l = 0
      · subst h0
        have : vs = [] := by
          unfold AH.ld at hl
          obtain ⟨_, _, hx⟩ := obind_eq_some.1 hl
          obtain ⟨_, _, _, _, hc⟩ := cellsK_some hx
          cases hc; rfl
        subst this
        cases hb
        exact ⟨[], by simp [loadCells, loadCellsFrom], rfl⟩
      · rcases s5 with s5 | ⟨im, m1, m2, m3⟩
        · omega
        · obtain ⟨ys, y1, y2, y3⟩ := ld_sound h m1 hl
          obtain ⟨ns, n1, n2⟩ := asBytes_ints hb y1
          refine ⟨ns, ?_, n2⟩
          rw [m2, ← n1]
          exact run_loadCells_ld im off l ys y2 y3
    obtain ⟨ns, n1, n2⟩ := hload
    refine quietV h (y := .string ⟨str.toArray⟩) ?_ rfl
    have := run_bytesToString (P := P) w ad l cap' ns n1
    rw [foldl_push] at this
    simp [execOp, ho, s1, run_convert_bytes_string w t1 t2 el (some ad) l cap' hs hz hf, this, n2]

theorem s_loadG (hT : TTok tt P) (h : HR CR B H μ w) {agg : Option Nat} {g : Nat} (hc : cLoadG tt agg g o.op = some u) (hr : rLoadG agg g τ H = some out) : Good CR B H μ w ((execOp a.eval o).run P w) out := by
  unfold cLoadG at hc
  split at hc <;> first | cases hc | skip
  rename_i t m ho
  obtain ⟨s, i, g1, g2, g3, g4, g5, g6⟩ := onT_some hT hc
  rw [yes?_some] at g6; simp only [Bool.and_eq_true] at g6
  obtain ⟨q1, q2⟩ := g6
  have q1 : g = m := by simpa using q1
  subst q1
  unfold rLoadG at hr
  obtain ⟨x, hv, hr⟩ := obind_eq_some.1 hr
  rw [ifb_none_eq_some] at hr
  obtain ⟨e, m1, m2, m3⟩ := h.gl g x hv hr.1
  have e3 : a.eval (.global g) = .pointer (some ⟨e.c, e.d, none⟩) := by rw [m2, m3]; rfl
  cases agg with
  | none =>
    simp only [Bool.not_eq_true'] at q2
    obtain ⟨v, hv, rfl⟩ := valK_some (show valK H (H.ld1 g 0) = some out from hr.2)
    obtain ⟨z, hz, hcell⟩ := ld1_sound h m1 hv
    exact quietV h (y := z) (by simp only [execOp, ho, Instr.loadAt, e3, Instr.sureAddr]; simp [run_loadVar_one g1 q2 _ (show w.cell? ⟨e.c, e.d, none⟩ = some z from hcell)]) hz
  | some n =>
    simp only [Bool.and_eq_true] at q2
    have k3 : s.size = n := by simpa using q2.2
    obtain ⟨vs, hv, hh⟩ := obind_eq_some.1 (show (H.ld g 0 n).obind _ = some out from hr.2); cases hh
    obtain ⟨ys, hy1, hy2, hy3⟩ := ld_sound h m1 hv
    exact quietV h (y := .agg ys.toArray) (by simp only [execOp, ho, Instr.loadAt, e3, Instr.sureAddr]; simp [run_loadVar_agg g1 q2.1 g2 _ (show (loadCells ⟨e.c, e.d, none⟩ i.size).run P w = .ok ys.toArray w from run_loadCells_ld e 0 i.size ys (by rw [hy2, g3, k3]) hy3)]) ⟨_, rfl, by simpa using hy1⟩

theorem s_idxAddrG (hT : TTok tt P) (hF : FR N μ τ a.tmps) (h : HR CR B H μ w) {g n esz : Nat} {i : Opd} (hc : cIdxAddrG tt g n esz i o.op = some u) (hr : rIdxAddrG g n esz i τ H = some out) : Good CR B H μ w ((execOp a.eval o).run P w) out := by
  unfold cIdxAddrG at hc
  split at hc <;> first | cases hc | skip
  rename_i t m z ho
  obtain ⟨s, ii, g1, g2, g3, g4, g5, g6⟩ := onT_some hT hc
  split at g6 <;> first | cases g6 | skip
  rename_i len el hd
  obtain ⟨s', i', k1, k2, k3, k4, k5, k6⟩ := onT_some hT g6
  rw [yes?_some] at k6; simp only [Bool.and_eq_true] at k6
  obtain ⟨q0, q1, q2, q4⟩ := k6
  have q0 : g = m := by simpa using q0
  subst q0
  have q1 : len = n := by simpa using q1
  have q2 : s'.size = esz := by simpa using q2
  unfold rIdxAddrG at hr
  obtain ⟨x, hv, hr⟩ := obind_eq_some.1 hr
  rw [ifb_none_eq_some] at hr
  obtain ⟨e, m1, m2, m3⟩ := h.gl g x hv hr.1
  have e3 : a.eval (.global g) = .pointer (some ⟨e.c, e.d, none⟩) := by rw [m2, m3]; rfl
  obtain ⟨k, j, f1, f2, f3⟩ := (ckO_sound hF q4).int hr.2
  obtain ⟨⟨j0, j1⟩, f3⟩ := idx_in f3
  cases f3
  refine quietV h (y := .pointer (some ⟨e.c, e.d + j.toNat * esz, none⟩)) ?_ ⟨e, m1, by simp⟩
  have hjl : j < len := by omega
  simp only [execOp, ho, Instr.indexAt, e3]
  simp [run_underlying g1, hd, f2, asIntOf, Instr.sureAddr, run_sizeOf' k2, j0, hjl, addr_add, k3, q2]

theorem s_rangeStr (hT : TTok tt P) (hF : FR N μ τ a.tmps) (h : HR CR B H μ w) {x : Opd} (hc : cRangeStr tt x o.op = some u) (hr : rRangeStr x τ H = some out) : Good CR B H μ w ((execOp a.eval o).run P w) out := by
  unfold cRangeStr at hc
  split at hc <;> first | cases hc | skip
  rename_i t y ho
  obtain ⟨s, i, g1, g2, g3, g4, g5, g6⟩ := onT_some hT hc
  split at g6 <;> first | cases g6 | skip
  rename_i hd
  rw [yes?_some] at g6
  unfold rRangeStr at hr
  obtain ⟨b, e1, e2, e3⟩ := (ckO_sound hF g6).str hr
  cases e3
  intro hf
  obtain ⟨h1, h2⟩ := alloc_sound (w' := w.alloc (.stringIter ⟨b.toArray⟩ 0)) h (fresh_alloc hf) (.stringIter ⟨b.toArray⟩ 0) (.iter b 0) 0 rfl ⟨by show (w.heap.push _)[w.heap.size]? = _; simp, rfl⟩ rfl
  refine ⟨_, _, _, ?_, ⟨_, Mu.add_same _ _ _, rfl⟩, h1, h2⟩
  simp [execOp, ho, e2, run_range_string w t _ (g1.trans (by rw [hd])), World.iter]

theorem s_nextStr (hF : FR N μ τ a.tmps) (h : HR CR B H μ w) {x : Opd} (hc : cNextStr x o.op = some u) (hr : rNextStr x τ H = some out) : Good CR B H μ w ((execOp a.eval o).run P w) out := by
  unfold cNextStr at hc
  split at hc <;> first | cases hc | skip
  rename_i y ho
  rw [yes?_some] at hc
  unfold rNextStr at hr
  obtain ⟨b, off, e, e1, e2, e3, e4⟩ := (ckO_sound hF hc).ptrE hr
  rw [ifb_none_eq_some] at e4
  obtain ⟨h0, e4⟩ := e4
  have h0 : off = 0 := by simpa using h0
  subst h0
  obtain ⟨z, hv, e4⟩ := obind_eq_some.1 e4
  obtain ⟨s, pos, ez, e5⟩ := iterK_some e4
  subst ez
  rw [ifb_none_eq_some] at e5
  obtain ⟨hm, e4⟩ := e5
  obtain ⟨b1, b2⟩ := h.blk b e _ e2 hv
  rw [b2] at e3
  unfold nextOut at e4
  rw [nth_eq] at e4
  have hsz : (⟨s.toArray⟩ : ByteArray).size = s.length := by show s.toArray.size = _; simp
  cases hn : s[pos]? with
  | none =>
    rw [hn] at e4
    cases e4
    have hp : ¬ pos < (⟨s.toArray⟩ : ByteArray).size := by rw [hsz]; exact Nat.not_lt.2 (List.getElem?_eq_none_iff.1 hn)
    refine quietV h (y := .tuple #[.bool false]) ?_ ⟨_, rfl, _, _, rfl, rfl, rfl⟩
    simp [execOp, ho, e3, Instr.next, getObj, Sem.run, b1, hp]
  | some c =>
    rw [hn] at e4
    have e4 : ifb (Nat.ble 128 c.toNat) none (some (Out.val (.tup [.bool true, .int .i64 (.ofNat pos), .int .i32 (.ofNat c.toNat)]) (H.setB b (.iter s (Nat.add pos 1))))) = some out := e4
    rw [ifb_none_eq_some'] at e4
    obtain ⟨hc', e4⟩ := e4
    cases e4
    obtain ⟨hlt, hget⟩ := List.getElem?_eq_some_iff.1 hn
    have hp : pos < (⟨s.toArray⟩ : ByteArray).size := by rw [hsz]; exact hlt
    have hcc : (⟨s.toArray⟩ : ByteArray)[pos]'hp = c := by
      show (s.toArray)[pos]'_ = c
      simpa using hget
    have ha : ((⟨s.toArray⟩ : ByteArray)[pos]'hp).toNat < 128 := by
      rw [hcc]
      apply Nat.lt_of_not_le; intro g
      rw [show Nat.ble 128 c.toNat = true from Nat.ble_eq_true_of_le g] at hc'; cases hc'
    have hlt' : e.c < w.heap.size := h.ins b e e2
    intro hf
    obtain ⟨q1, q2⟩ := upd_sound (w' := { w with heap := w.heap.setIfInBounds e.c (.stringIter ⟨s.toArray⟩ (pos + 1)) }) h e2 hv rfl hm (x' := .iter s (pos + 1)) rfl (by simp) (fun c hc => by simp [Ne.symm hc])
      ⟨by simp [hlt'], b2⟩
    refine ⟨.tuple #[.bool true, goInt pos, .int .i32 c.toNat], _, μ, ?_, ⟨_, rfl, _, _, rfl, rfl, _, _, rfl, rfl, _, _, rfl, rfl, rfl⟩, q1, q2⟩
    simp [execOp, ho, e3, Instr.next, getObj, setObj, Sem.run, Result.andThen, b1, hp, decode_ascii _ _ hp ha, hcc]

theorem s_strToBytes (hT : TTok tt P) (hF : FR N μ τ a.tmps) (h : HR CR B H μ w) {x : Opd} (hc : cStrToBytes tt x o.op = some u) (hr : rStrToBytes x τ H = some out) : Good CR B H μ w ((execOp a.eval o).run P w) out := by
  unfold cStrToBytes at hc
  split at hc <;> first | cases hc | skip
  rename_i t1 t2 y ho
  obtain ⟨s, i, g1, g2, g3, g4, g5, g6⟩ := onT_some hT hc
  obtain ⟨f, jf, l1, l2, l3, l4, l5, l6⟩ := onT_some hT g6
  split at l6 <;> first | cases l6 | skip
  rename_i el hd
  obtain ⟨z, iz, k1, k2, k3, k4, k5, k6⟩ := onT_some hT l6
  rw [yes?_some] at k6; simp only [Bool.and_eq_true] at k6
  obtain ⟨q1, q2, q3⟩ := k6
  have hz : P.underlying el = some (.int .u8) := by
    rw [k1]; revert q1; cases z.desc <;> simp
    rename_i k; cases k <;> simp
  have hs : P.underlying t1 = some .string := by
    rw [g1]; revert q2; cases s.desc <;> simp
  have hd2 : P.underlying t2 = some (.slice el) := by rw [l1, hd]
  unfold rStrToBytes at hr
  obtain ⟨b, e1, e2, e3⟩ := (ckO_sound hF q3).str hr
  unfold newSl at e3
  cases e3
  have hsz : (⟨b.toArray⟩ : ByteArray).size = b.length := by show b.toArray.size = _; simp
  have hge := grownCap_ge w b.length 0 el
  have hrow : (bytesRow ⟨b.toArray⟩ (grownCap w b.length 0 el)).size = grownCap w b.length 0 el := by
    unfold bytesRow
    simp [hsz]
    omega
  intro hf
  obtain ⟨h1, h2⟩ := alloc_sound (w' := w.drew.alloc (.cells (bytesRow ⟨b.toArray⟩ (grownCap w b.length 0 el)) el ((bytesRow ⟨b.toArray⟩ (grownCap w b.length 0 el)).size, (bytesRow ⟨b.toArray⟩ (grownCap w b.length 0 el)).size + 1))) h (fresh_alloc hf)
    (.cells (bytesRow ⟨b.toArray⟩ (grownCap w b.length 0 el)) el ((bytesRow ⟨b.toArray⟩ (grownCap w b.length 0 el)).size, (bytesRow ⟨b.toArray⟩ (grownCap w b.length 0 el)).size + 1)) (.cells false (b.map byteV) 0) (bytesRow ⟨b.toArray⟩ (grownCap w b.length 0 el)).size rfl
    ⟨bytesRow ⟨b.toArray⟩ (grownCap w b.length 0 el), el, ((bytesRow ⟨b.toArray⟩ (grownCap w b.length 0 el)).size, (bytesRow ⟨b.toArray⟩ (grownCap w b.length 0 el)).size + 1), by show (w.heap.push _)[w.heap.size]? = _; simp, by simp, (by
      simp only [List.drop_zero, List.length_map]
      have : (bytesRow ⟨b.toArray⟩ (grownCap w b.length 0 el)).toList.take b.length = b.map fun b => Value.int .u8 b.toNat := by
        unfold bytesRow
        simp only [Array.toList_append, Array.toList_map]
        rw [List.take_left' (by simp)]
      rw [this]; exact VRs.bytes b), fun _ k hk hk' => Nat.lt_irrefl _ (Nat.lt_of_lt_of_le hk hk'.1), .inl rfl⟩ rfl
  refine ⟨.slice (some ⟨w.heap.size, 0, none⟩) b.length (grownCap w b.length 0 el), _, _, ?_, ⟨_, grownCap w b.length 0 el, rfl, Nat.le_refl _, hge, fun g => (by cases g), .inr ⟨_, Mu.add_same _ _ _, rfl, by rw [hrow]; simp⟩⟩, h1, h2⟩
  have := run_bytes_of_string (P := P) w t1 t2 el ⟨b.toArray⟩ hs hd2 hz
  rw [hsz] at this
  simp [execOp, ho, e2, this]

/-- The first of what is copied. -/
theorem srcCells_part (h : HR CR B H μ w) {v : AV} {x : Value} (hv : VR μ v x) {esz n m : Nat} {ws vs : List AV} (hs : srcCells H esz v = some (n, ws)) (hmn : m ≤ n) (hvs : takeN (m * esz) ws = some vs) :
    ∃ new : Array Value, VRs μ vs new.toList ∧ (Builtin.lenOf x).run P w = .ok n w ∧ (Builtin.firstCells esz m x).run P w = .ok new w := by
  obtain ⟨new, n1, n2, n3, n4⟩ := srcCells_sound (P := P) h hv hs
  have hvs : vs = ws.take (m * esz) := by
    rw [takeN_eq] at hvs; split at hvs <;> simp at hvs; exact hvs.symm
  subst hvs
  refine ⟨(new.toList.take (m * esz)).toArray, by simpa using n1.take (m * esz), n3 w rfl, ?_⟩
  have n4 := n4 w rfl
  unfold srcCells at hs
  split at hs
  · rename_i len cp ex z
    rw [ifb_none_eq_some] at hs
    obtain ⟨h0, hs⟩ := hs; cases hs
    obtain ⟨h1, h2, h3⟩ := hv
    subst h3
    have hm0 : m = 0 := by omega
    subst hm0
    simp [Builtin.firstCells]
  · rename_i b off len cp ex z
    rw [ifb_none_eq_some] at hs
    obtain ⟨hz, hs⟩ := hs
    have hz : z = esz := by simpa using hz
    subst hz
    obtain ⟨cs, hl, hs⟩ := obind_eq_some.1 hs; cases hs
    obtain ⟨ad, cap', h1, h2, h3, h4, h5⟩ := hv
    subst h1
    by_cases hn : m * z = 0
    · simp [Builtin.firstCells, hn, loadCells, loadCellsFrom]
    · have hn' : n * z ≠ 0 := fun g => hn (Nat.le_zero.1 (g ▸ Nat.mul_le_mul_right z hmn))
      rcases h5 with h5 | ⟨e, m1, m2, m3⟩
      · exfalso; apply hn'; have : n = 0 := by omega
        rw [this]; simp
      · obtain ⟨ys, g1, g2, g3⟩ := ld_sound h m1 hl
        have hnew : new = ys.toArray := by
          have := run_loadCells_ld (P := P) (w := w) e off _ ys g2 g3
          simp only [Builtin.firstCells, m2] at n4
          rw [this] at n4
          cases n4; rfl
        subst hnew
        simp only [Builtin.firstCells, m2]
        have hle : m * z ≤ n * z := Nat.mul_le_mul_right z hmn
        exact run_loadCells_ld e off _ (ys.take (m * z)) (by simp; omega) fun i y hy => by
          rw [List.getElem?_take] at hy; split at hy <;> first | cases hy | skip
          exact g3 i y hy
  · rename_i s
    rw [ifb_none_eq_some] at hs
    obtain ⟨h0, hs⟩ := hs; cases hs
    have h0 : esz = 1 := by simpa using h0
    subst h0
    have hv : x = .string ⟨s.toArray⟩ := hv
    subst hv
    simp only [Builtin.firstCells] at n4 ⊢
    have e : ByteArray.extract ⟨s.toArray⟩ 0 s.length = ⟨s.toArray⟩ := by
      apply ByteArray.ext; rw [ByteArray.data_extract]; simp
    rw [e] at n4
    cases n4
    have e2 : (ByteArray.extract ⟨s.toArray⟩ 0 m).data = (s.take m).toArray := by rw [ByteArray.data_extract]; simp
    simp [List.map_take]
  · cases hs

theorem s_copy (hT : TTok tt P) (hF : FR N μ τ a.tmps) (h : HR CR B H μ w) {esz : Nat} {d s : Opd} (hc : cCopy tt esz d s o.op = some u) (hr : rCopy esz d s τ H = some out) : Good CR B H μ w ((execOp a.eval o).run P w) out := by
  unfold cCopy at hc
  split at hc <;> first | cases hc | skip
  rename_i as ts ho
  split at hc <;> first | cases hc | skip
  rename_i x y t t' has hts
  obtain ⟨e, ii, g1, g2, g3, g4, g5, g6⟩ := onT_some hT hc
  have has : as = #[x, y] := by cases as; simp_all
  have hts : ts = #[t, t'] := by cases ts; simp_all
  subst has hts
  have hexec := call_builtin (P := P) (w := w) (a := a) (f := Builtin.copy_) ho (fun _ _ => rfl)
  split at g6 <;> first | cases g6 | skip
  rename_i el hd
  obtain ⟨z, i, k1, k2, k3, k4, k5, k6⟩ := onT_some hT g6
  rw [yes?_some] at k6; simp only [Bool.and_eq_true] at k6
  obtain ⟨q1, q2, q3⟩ := k6
  have q1 : i.size = esz := by rw [k3]; simpa using q1
  have hd1 : P.underlying t = some (.slice el) := by rw [g1, hd]
  have hx := ckO_sound hF q2
  have hy := ckO_sound hF q3
  unfold rCopy at hr
  obtain ⟨⟨n, ws⟩, hsrc, hr⟩ := obind_eq_some.1 hr
  simp only at hr
  obtain ⟨p, l, c, ex, zz, e1, hr, hv⟩ := hx.slE hr
  have run : ∀ (base : Option Addr) (cap' : Nat) (new : Array Value) (w' : World), a.eval x = .slice base l cap' → (Builtin.lenOf (a.eval y)).run P w = .ok n w → (Builtin.firstCells esz (min n l) (a.eval y)).run P w = .ok new w →
      (∀ ad, base = some ad → (storeCells ad new.toList).run P w = .ok () w') → (base = none → w' = w) → (Builtin.copy_ #[t, t'] o.type (#[x, y].map a.eval)).run P w = .ok (goInt (min n l : Nat)) w' := by
    intro base cap' new w' h1 h2 h3 h4 h5
    have hmin : Nat.min n l = min n l := rfl
    cases base with
    | none =>
      obtain rfl := h5 rfl
      simp [Builtin.copy_, run_underlying hd1, h1, h2, hmin, run_sizeOf' k2, q1, h3]
    | some ad => simp [Builtin.copy_, run_underlying hd1, h1, h2, hmin, run_sizeOf' k2, q1, h3, h4 ad rfl]
  have hint : ∀ k : Nat, VR μ (.int .i64 (.ofNat k)) (goInt k) := fun k => rfl
  cases p with
  | none =>
    obtain ⟨h1, h2, h3⟩ := hv
    have hr : ifb (Nat.beq l 0) (some (Out.val (.int .i64 0) H)) none = some out := hr
    rw [ifb_none_eq_some] at hr
    obtain ⟨_, hr⟩ := hr
    cases hr
    subst h1
    obtain ⟨new, n1, n2, n3⟩ := srcCells_part (P := P) h hy hsrc (Nat.zero_le _) (m := 0) (vs := []) (by rw [Nat.zero_mul]; rfl)
    refine quietV h (y := goInt (min n 0 : Nat)) ?_ (by rw [Nat.min_zero]; exact hint 0)
    rw [hexec, run none 0 new w h3 n2 (by rw [Nat.min_zero]; exact n3) (fun ad g => by cases g) (fun _ => rfl)]; rfl
  | some p =>
    obtain ⟨b, off⟩ := p
    obtain ⟨ad, cap', h1, h2, h3, h4, h5⟩ := hv
    have hr : ifb (Nat.beq esz zz) (ifb (Nat.beq (min n l) 0) (some (Out.val (.int .i64 0) H))
        ((takeN (min n l * esz) ws).obind fun ws => (H.st b off ws).obind fun H' => some (Out.val (.int .i64 (.ofNat (min n l))) H'))) none = some out := hr
    rw [ifb_none_eq_some] at hr
    obtain ⟨hz, hr⟩ := hr
    rw [ifb_eq] at hr
    split at hr
    · rename_i hl; have hl : min n l = 0 := by simpa using hl
      cases hr
      obtain ⟨new, n1, n2, n3⟩ := srcCells_part (P := P) h hy hsrc (Nat.zero_le _) (m := 0) (vs := []) (by rw [Nat.zero_mul]; rfl)
      refine quietV h (y := goInt (min n l : Nat)) ?_ (by rw [hl]; exact hint 0)
      have hnew : new.toList = [] := n1
      rw [hexec, run (some ad) cap' new w h1 n2 (by rw [hl]; exact n3) (fun ad _ => by rw [hnew]; rfl) (fun g => by cases g)]; rfl
    · rename_i hl; have hl : min n l ≠ 0 := by simpa using hl
      obtain ⟨vs, hvs, hr⟩ := obind_eq_some.1 hr
      obtain ⟨H', hst, hr⟩ := obind_eq_some.1 hr
      cases hr
      obtain ⟨new, n1, n2, n3⟩ := srcCells_part (P := P) h hy hsrc (Nat.min_le_left n l) hvs
      rcases h5 with h5 | ⟨e, m1, m2, m3⟩
      · omega
      · intro _
        obtain ⟨w', r1, r2, r3⟩ := storeCells_sound (P := P) h m1 n1 hst
        refine ⟨goInt (min n l : Nat), w', μ, ?_, hint _, r2, r3⟩
        rw [hexec, run (some ad) cap' new w' h1 n2 n3 (fun ad' g => by cases g; rw [m2]; exact r1) (fun g => by cases g)]; rfl

theorem op_sound (hT : TTok tt P) (hF : FR N μ τ a.tmps) (h : HR CR B H μ w) {x : IOp} (hc : ckOp tt x o.op = some u) (hr : opRun x τ H = some out) : Good CR B H μ w ((execOp a.eval o).run P w) out := by
  cases x
  case move => exact s_move hF h hc hr
  case pick => exact s_pick hF h hc hr
  case alloc => exact s_alloc (τ := τ) hT h hc hr
  case box => exact s_box hF h hc hr
  case build => exact s_build hT hF h hc hr
  case buildSlice => exact s_buildSlice hT hF h hc hr
  case load => exact s_load hT hF h hc hr
  case loadAgg => exact s_loadAgg hT hF h hc hr
  case store => exact s_store hT hF h hc hr
  case nilCheck => exact s_nilCheck hF h hc hr
  case bin => exact s_bin hF h hT hc hr
  case eqB => exact s_eqB hF h hT hc hr
  case eqAgg => exact s_eqAgg hT hF h hc hr
  case eqNil => exact s_eqNil hT hF h hc hr
  case un => exact s_un hF h hc hr
  case convInt => exact s_convInt hT hF h hc hr
  case convStr => exact s_convStr hT hF h hc hr
  case bytesToStr => exact s_bytesToStr hT hF h hc hr
  case strToBytes => exact s_strToBytes hT hF h hc hr
  case mkIface => exact s_mkIface hT hF h hc hr
  case mkFn => exact s_mkFn hF h hc hr
  case mkMap => exact s_mkMap (τ := τ) hT h hc hr
  case stuck => cases hr
  case loadG => exact s_loadG (τ := τ) hT h hc hr
  case idxAddrG => exact s_idxAddrG hT hF h hc hr
  case mkSlice => exact s_mkSlice hT hF h hc hr
  case sliceStr => exact s_sliceStr hT hF h hc hr
  case sliceSl => exact s_sliceSl hT hF h hc hr
  case sliceArr => exact s_sliceArr hT hF h hc hr
  case fieldAddr => exact s_fieldAddr hT hF h hc hr
  case field => exact s_field hT hF h hc hr
  case idxAddrArr => exact s_idxAddrArr hT hF h hc hr
  case idxAddrSl => exact s_idxAddrSl hT hF h hc hr
  case idxArr => exact s_idxArr hT hF h hc hr
  case idxStr => exact s_idxStr hT hF h hc hr
  case lookup => exact s_lookup hT hF h hc hr
  case mapUpdate => exact s_mapUpdate hT hF h hc hr
  case extract => exact s_extract hF h hc hr
  case call => cases hc
  case len => exact s_len hT hF h hc hr
  case lenArr => exact s_lenArr (τ := τ) hT h hc hr
  case append => exact s_append hT hF h hc hr
  case copy => exact s_copy hT hF h hc hr
  case clearSl => exact s_clearSl hT hF h hc hr
  case minmax => exact s_minmax hF h hc hr
  case rangeStr => exact s_rangeStr hT hF h hc hr
  case nextStr => exact s_nextStr hF h hc hr
end
end Go.Ai
