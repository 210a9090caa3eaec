/- Single operations: clear, min, max; and all of them together. -/
import Derived.Test.YtmkndicbddahgaaAi11
namespace Go.Ai
open Go

section
variable (tt : TT)
def cClearSl (zero : List AV) (x : Opd) : Op → Option Unit
  | .call { callee := .builtin .clear, args := as, argTypes := ts } => match as.toList, ts.toList with
    | [a], [t] => onT tt t fun e => match e.desc with
      | .slice el => onT tt el fun z => z.zero.bind fun zv => yes? (ckO x a && ckVs zero zv.cells.toList)
      | _ => none
    | _, _ => none
  | _ => none
def cMinmax (mx : Bool) (xs : List Opd) : Op → Option Unit
  | .call { callee := .builtin b, args := as, argTypes := _ } => yes? (decide (b = (if mx then .max else .min)) && ckOs xs as.toList)
  | _ => none
end

section
variable {tt : TT} {CR : CRel} {B N : Nat} {P : Program} {H : AH} {μ : Mu} {w : World} {τ : Fr AV} {a : Act} {u : Unit} {out : Out} {o : Oper}

theorem s_clearSl (hT : TTok tt P) (hF : FR N μ τ a.tmps) (h : HR CR B H μ w) {zero : List AV} {x : Opd} (hc : cClearSl tt zero x o.op = some u) (hr : rClearSl zero x τ H = some out) : Good CR B H μ w ((execOp a.eval o).run P w) out := by
  unfold cClearSl at hc
  split at hc <;> first | cases hc | skip
  rename_i as ts ho
  split at hc <;> first | cases hc | skip
  rename_i y t has hts
  obtain ⟨s, ii, g1, g2, g3, g4, g5, g6⟩ := onT_some hT hc
  have has : as = #[y] := by cases as; simp_all
  have hts : ts = #[t] := by cases ts; simp_all
  subst has hts
  split at g6 <;> first | cases g6 | skip
  rename_i el hd
  obtain ⟨s', i', k1, k2, k3, k4, k5, k6⟩ := onT_some hT g6
  obtain ⟨z, hz, k6⟩ := Option.bind_eq_some_iff.1 k6
  rw [yes?_some] at k6; simp only [Bool.and_eq_true] at k6
  obtain ⟨q1, q2⟩ := k6
  have hexec := call_builtin (P := P) (w := w) (a := a) (f := Builtin.clear_) ho (fun _ _ => rfl)
  have hzr := run_zeroValue' (w := w) k2 (k5.trans hz)
  unfold rClearSl at hr
  obtain ⟨p, l, c, ex, zz, e1, hr, hv⟩ := (ckO_sound hF q1).slE hr
  have htup : VR μ (.tup []) (.tuple #[]) := ⟨#[], rfl, rfl⟩
  cases p with
  | none =>
    obtain ⟨h1, h2, h3⟩ := hv
    cases hr
    refine quietV h ?_ htup
    rw [hexec]
    simp [Builtin.clear_, run_underlying g1, hd, h3]
  | some p =>
    obtain ⟨b, off⟩ := p
    obtain ⟨ad, cap', h1, h2, h3, h4, h5⟩ := hv
    have hr : ifb (Nat.beq l 0) (some (Out.val (.tup []) H)) ((H.st b off (repN l zero)).obind fun H' => some (Out.val (.tup []) H')) = some out := hr
    rw [ifb_eq] at hr
    split at hr
    · rename_i hl; have hl : l = 0 := by simpa using hl
      subst hl
      cases hr
      refine quietV h ?_ htup
      rw [hexec]
      simp [Builtin.clear_, run_underlying g1, hd, h1]
    · rename_i hl
      have hl : l ≠ 0 := by simpa using hl
      obtain ⟨H', hst, hr⟩ := obind_eq_some.1 hr
      cases hr
      rcases h5 with h5 | ⟨e, m1, m2, m3⟩
      · omega
      · have hm := (ckVs_sound μ _ _ q2).made l
        obtain ⟨w', r1, r2, r3⟩ := storeCells_sound (P := P) h m1 hm hst
        intro _
        refine ⟨_, w', μ, ?_, htup, r2, r3⟩
        rw [hexec]
        cases l with
        | zero => exact absurd rfl hl
        | succ l =>
          have r1' : (storeCells ⟨e.c, e.d + off, none⟩ (Builtin.zeroCells z.cells (l + 1)).toList).run P w = .ok () w' := r1
          have : (Builtin.clear_ #[t] o.type (#[y].map a.eval)).run P w = .ok (.tuple #[]) w' := by
            unfold Builtin.clear_
            simp only [List.map_toArray, List.map_cons, List.map_nil, h1, m2]
            simp [run_underlying g1, hd, hzr, r1']
          rw [this]; rfl

theorem minmax_run (mx : Bool) : ∀ {xs : List AV} {ys : List Value} {X : AV} {y : Value} {v : AV}, VR μ X y → VRs μ xs ys → minmaxV mx X xs = some v →
    ∃ r, (ys.foldlM (if mx then Builtin.max2 else Builtin.min2) y : Sem Value).run P w = .ok r w ∧ VR μ v r
  | [], ys, X, y, v, hx, h, hm => by cases h; cases hm; exact ⟨y, by simp, hx⟩
  | x :: xs, ys, X, y, v, hx, ⟨z, r, e1, h1, h2⟩, hm => by
    subst e1
    have hm : X.intK (fun k a => x.intK fun k' b => ifb (beqK k k') (minmaxV mx (.int k (ifb mx (ifb (iltb a b) b a) (ifb (iltb b a) b a))) xs) none) = some v := hm
    obtain ⟨k, n, rfl, rfl, hm⟩ := hx.int hm
    obtain ⟨k', m, rfl, rfl, hm⟩ := h1.int hm
    rw [ifb_none_eq_some] at hm
    obtain ⟨hk, hm⟩ := hm
    obtain ⟨r', hr, hv⟩ := minmax_run mx (X := .int k (ifb mx (ifb (iltb n m) m n) (ifb (iltb m n) m n))) (y := .int k (ifb mx (ifb (iltb n m) m n) (ifb (iltb m n) m n))) rfl h2 hm
    refine ⟨r', ?_, hv⟩
    rw [List.foldlM_cons]
    cases mx
    · simp only [Bool.false_eq_true, if_false] at hr ⊢
      simp only [Builtin.min2, Sem.run_bind, Sem.run_pure, Result.andThen_ok]
      rw [← hr]
      simp [ifb_eq, iltb_eq]
    · simp only [if_true] at hr ⊢
      simp only [Builtin.max2, Sem.run_bind, Sem.run_pure, Result.andThen_ok]
      rw [← hr]
      simp [ifb_eq, iltb_eq]

theorem s_minmax (hF : FR N μ τ a.tmps) (h : HR CR B H μ w) {mx : Bool} {xs : List Opd} (hc : cMinmax mx xs o.op = some u) (hr : rMinmax mx xs τ H = some out) : Good CR B H μ w ((execOp a.eval o).run P w) out := by
  unfold cMinmax at hc
  split at hc <;> first | cases hc | skip
  rename_i b as ts ho
  rw [yes?_some] at hc; simp only [Bool.and_eq_true, decide_eq_true_eq] at hc
  obtain ⟨rfl, q⟩ := hc
  have hvs := ckOs_sound hF q
  unfold rMinmax at hr
  split at hr <;> first | cases hr | skip
  rename_i X rest hX
  obtain ⟨v, hv, rfl⟩ := valK_some hr
  rw [hX] at hvs
  obtain ⟨y, ys, e1, h1, h2⟩ := hvs
  obtain ⟨r, hr1, hr2⟩ := minmax_run (P := P) (w := w) mx h1 h2 hv
  refine quietV h (y := r) ?_ hr2
  have hal : (as.map a.eval).toList = y :: ys := by rw [Array.toList_map]; exact e1
  cases mx
  · have hexec := call_builtin (P := P) (w := w) (a := a) (f := Builtin.min_) (b := .min) (by simpa using ho) (fun _ _ => rfl)
    rw [hexec]
    simp only [Builtin.min_, hal]
    simp at hr1
    rw [hr1]; rfl
  · have hexec := call_builtin (P := P) (w := w) (a := a) (f := Builtin.max_) (b := .max) (by simpa using ho) (fun _ _ => rfl)
    rw [hexec]
    simp only [Builtin.max_, hal]
    simp at hr1
    rw [hr1]; rfl
end

/-! ### All operations -/
section
variable (tt : TT)
/-- The check of an operation that is no call of a function. -/
def ckOp (x : IOp) (o : Op) : Option Unit :=
  match x with
  | .move x => cMove x o
  | .pick c a b => cPick c a b o
  | .alloc z => cAlloc tt z o
  | .box x => cBox x o
  | .build z ps => cBuild tt z ps o
  | .buildSlice z e l ps => cBuildSlice tt z e l ps o
  | .load x => cLoad tt x o
  | .loadAgg n x => cLoadAgg tt n x o
  | .store n a v => cStore tt n a v o
  | .nilCheck x => cNilCheck x o
  | .bin op x y => cBin tt op x y o
  | .eqB neg x y => cEqB tt neg x y o
  | .eqAgg neg ks x y => cEqAgg tt neg ks x y o
  | .eqNil k neg x y => cEqNil tt k neg x y o
  | .un op x => cUn op x o
  | .convInt k x => cConvInt tt k x o
  | .convStr x => cConvStr tt x o
  | .bytesToStr _ => none
  | .strToBytes _ => none
  | .mkIface t x => cMkIface tt t x o
  | .mkFn f a b => cMkFn f a b o
  | .mkMap => cMkMap tt o
  | .mkSlice z e b l c => cMkSlice tt z e b l c o
  | .sliceStr x l h => cSliceStr tt x l h o
  | .sliceSl e x l h m => cSliceSl tt e x l h m o
  | .sliceArr n e x l h => cSliceArr tt n e x l h o
  | .fieldAddr f x => cFieldAddr tt f x o
  | .field f g x => cField tt f g x o
  | .idxAddrArr n e x i => cIdxAddrArr tt n e x i o
  | .idxAddrSl e x i => cIdxAddrSl tt e x i o
  | .idxArr n e g x i => cIdxArr tt n e g x i o
  | .idxStr x i => cIdxStr tt x i o
  | .lookup g ks z k m i => cLookup tt g ks z k m i o
  | .mapUpdate g ks m k v => cMapUpdate tt g ks m k v o
  | .extract x i => cExtract x i o
  | .call _ _ => none
  | .len k x => cLen tt k x o
  | .lenArr n => cLenArr tt n o
  | .append e b s x => cAppend tt e b s x o
  | .copy _ _ _ => none
  | .clearSl z x => cClearSl tt z x o
  | .minmax m xs => cMinmax m xs o
end

section
variable {tt : TT} {CR : CRel} {B N : Nat} {P : Program} {H : AH} {μ : Mu} {w : World} {τ : Fr AV} {a : Act} {u : Unit} {out : Out} {o : Oper}
theorem op_sound (hT : TTok tt P) (hF : FR N μ τ a.tmps) (h : HR CR B H μ w) {x : IOp} (hc : ckOp tt x o.op = some u) (hr : opRun x τ H = some out) : Good CR B H μ w ((execOp a.eval o).run P w) out := by
  cases x
  case move => exact s_move hF h hc hr
  case pick => exact s_pick hF h hc hr
  case alloc => exact s_alloc (τ := τ) hT h hc hr
  case box => exact s_box hF h hc hr
  case build => exact s_build hT hF h hc hr
  case buildSlice => exact s_buildSlice hT hF h hc hr
  case load => exact s_load hT hF h hc hr
  case loadAgg => exact s_loadAgg hT hF h hc hr
  case store => exact s_store hT hF h hc hr
  case nilCheck => exact s_nilCheck hF h hc hr
  case bin => exact s_bin hF h hT hc hr
  case eqB => exact s_eqB hF h hT hc hr
  case eqAgg => exact s_eqAgg hT hF h hc hr
  case eqNil => exact s_eqNil hT hF h hc hr
  case un => exact s_un hF h hc hr
  case convInt => exact s_convInt hT hF h hc hr
  case convStr => exact s_convStr hT hF h hc hr
  case bytesToStr => cases hc
  case strToBytes => cases hc
  case mkIface => exact s_mkIface hT hF h hc hr
  case mkFn => exact s_mkFn hF h hc hr
  case mkMap => exact s_mkMap (τ := τ) hT h hc hr
  case mkSlice => exact s_mkSlice hT hF h hc hr
  case sliceStr => exact s_sliceStr hT hF h hc hr
  case sliceSl => exact s_sliceSl hT hF h hc hr
  case sliceArr => exact s_sliceArr hT hF h hc hr
  case fieldAddr => exact s_fieldAddr hT hF h hc hr
  case field => exact s_field hT hF h hc hr
  case idxAddrArr => exact s_idxAddrArr hT hF h hc hr
  case idxAddrSl => exact s_idxAddrSl hT hF h hc hr
  case idxArr => exact s_idxArr hT hF h hc hr
  case idxStr => exact s_idxStr hT hF h hc hr
  case lookup => exact s_lookup hT hF h hc hr
  case mapUpdate => exact s_mapUpdate hT hF h hc hr
  case extract => exact s_extract hF h hc hr
  case call => cases hc
  case len => exact s_len hT hF h hc hr
  case lenArr => exact s_lenArr (τ := τ) hT h hc hr
  case append => exact s_append hT hF h hc hr
  case copy => cases hc
  case clearSl => exact s_clearSl hT hF h hc hr
  case minmax => exact s_minmax hF h hc hr
end
end Go.Ai
