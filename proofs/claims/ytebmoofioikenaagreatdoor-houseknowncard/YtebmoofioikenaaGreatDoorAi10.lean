/- Single operations: composite values, and slices made. -/
import Derived.Test.YtebmoofioikenaaGreatDoorAi9
import Derived.Laws.Tables
import Derived.Laws.MakeOwn
namespace Go.Ai
open Go

theorem foldl_put (v : List Value) : ∀ (off j : Nat) (cs : Array Value), off + j + v.length ≤ cs.size →
    ((v.zipIdx j).foldl (fun cs x => cs.setIfInBounds (off + x.2) x.1) cs).toList = cs.toList.take (off + j) ++ v ++ cs.toList.drop (off + j + v.length) := by
  induction v with
  | nil => intro off j cs _; simp
  | cons x v ih =>
    intro off j cs h
    rw [List.zipIdx_cons, List.foldl_cons, ih off (j + 1) _ (by simp at h ⊢; omega)]
    have := list_seg_step cs.toList (off + j) x v (by simp at h ⊢; omega)
    simpa [Array.toList_setIfInBounds, Nat.add_assoc] using this

theorem repN_get {α : Type} (l : List α) : ∀ (n i : Nat), (repN n l)[i]? = if i < n * l.length then l[i % l.length]? else none
  | 0, i => by rw [show repN 0 l = [] from rfl]; simp
  | n + 1, i => by
    show (l ++ repN n l)[i]? = _
    by_cases h : i < l.length
    · rw [List.getElem?_append_left h, if_pos (by rw [Nat.succ_mul]; omega), Nat.mod_eq_of_lt h]
    · rw [List.getElem?_append_right (by omega), repN_get l n, Nat.succ_mul]
      by_cases h2 : i - l.length < n * l.length
      · rw [if_pos h2, if_pos (by omega), ← Nat.mod_eq_sub_mod (by omega)]
      · rw [if_neg h2, if_neg (by omega)]

section
variable {tt : TT} {CR : CRel} {B N : Nat} {P : Program} {H : AH} {μ : Mu} {w : World} {τ : Fr AV} {a : Act} {u : Unit} {out : Out} {o : Oper}

theorem VRs.made {zs : List AV} {z : Array Value} (h : VRs μ zs z.toList) (n : Nat) : VRs μ (repN n zs) ((Array.range (n * z.size)).map (z[· % z.size]!)).toList := by
  have hl := h.length
  have hl : z.size = zs.length := by simpa using hl
  refine VRs.of (by rw [repN_length]; simp [hl]) fun i x y hx hy => ?_
  rw [repN_get] at hx
  split at hx <;> first | cases hx | skip
  rename_i hi
  obtain ⟨y', h1, h2⟩ := h.get hx
  have hlt : i % z.size < z.size := by
    rw [hl]; exact Nat.mod_lt _ (by apply Classical.byContradiction; intro hn; have : zs.length = 0 := by omega
                                    rw [this] at hi; omega)
  rw [← hl] at h1
  simp [hlt] at h1 hy
  obtain ⟨j, hj, rfl⟩ := hy
  have hi2 : i < n * z.size := by rw [hl]; exact hi
  have hj2 : j = i := by
    rw [List.getElem?_eq_getElem (by simpa using hi2)] at hj; simpa using hj.symm
  subst hj2
  rw [getElem!_pos z _ hlt, h1]; exact h2

theorem fillC_length : ∀ {ps : List (Nat × Nat × Opd)} {l cs : List AV}, fillC τ l ps = some cs → cs.length = l.length
  | [], l, cs, h => by cases h; rfl
  | p :: ps, l, cs, hf => by
    have hf : ifb (p.2.2.ev τ).isDef (ifb (Nat.beq (p.2.2.ev τ).cells.length p.2.1) ((over l p.1 (p.2.2.ev τ).cells).obind (fun l => fillC τ l ps)) none) none = some cs := hf
    rw [ifb_none_eq_some, ifb_none_eq_some] at hf
    obtain ⟨_, _, hf⟩ := hf
    obtain ⟨l', ho, hf⟩ := obind_eq_some.1 hf
    rw [fillC_length hf]
    rw [over_eq] at ho; split at ho <;> simp at ho; subst ho; simp; omega

/-- The parts: where they lie, and what they are. -/
def ckParts (place : Nat → Option (Nat × Nat)) : List (Nat × Nat × Opd) → List (Nat × Operand) → Bool
  | [], [] => true
  | p :: ps, q :: qs => (match place q.1 with | some (off, size) => Nat.beq off p.1 && (Nat.beq size p.2.1 && ckO p.2.2 q.2) | none => false) && ckParts place ps qs
  | _, _ => false

theorem fill_sound (hF : FR N μ τ a.tmps) {place : Nat → Option (Nat × Nat)} : ∀ {ps : List (Nat × Nat × Opd)} {qs : List (Nat × Operand)} {zs cs : List AV} {z : Array Value}, ckParts place ps qs = true →
    VRs μ zs z.toList → fillC τ zs ps = some cs → ∃ ys : Array Value, Instr.fill place z (qs.map fun q => (q.1, a.eval q.2)) = some ys ∧ VRs μ cs ys.toList
  | [], [], zs, cs, z, _, hz, hf => by cases hf; exact ⟨z, rfl, hz⟩
  | [], _ :: _, _, _, _, hc, _, _ => by simp [ckParts] at hc
  | _ :: _, [], _, _, _, hc, _, _ => by simp [ckParts] at hc
  | p :: ps, q :: qs, zs, cs, z, hc, hz, hf => by
    simp only [ckParts, Bool.and_eq_true] at hc
    obtain ⟨h1, h2⟩ := hc
    split at h1 <;> first | cases h1 | skip
    rename_i off size hp
    simp only [Bool.and_eq_true, Nat.beq_eq] at h1
    obtain ⟨rfl, rfl, h3⟩ := h1
    have hf : ifb (p.2.2.ev τ).isDef (ifb (Nat.beq (p.2.2.ev τ).cells.length p.2.1) ((over zs p.1 (p.2.2.ev τ).cells).obind (fun l => fillC τ l ps)) none) none = some cs := hf
    rw [ifb_none_eq_some, ifb_none_eq_some] at hf
    obtain ⟨hd, hlen, hf⟩ := hf
    obtain ⟨zs', ho, hf⟩ := obind_eq_some.1 hf
    have hlen : (p.2.2.ev τ).cells.length = p.2.1 := by simpa using hlen
    rw [over_eq] at ho
    split at ho <;> simp at ho
    rename_i hle
    have hv := (ckO_sound hF h3).cells (isDef_ne hd)
    have hvl := hv.length
    have hzl := hz.length
    have hvl : (a.eval q.2).cells.size = (p.2.2.ev τ).cells.length := by simpa using hvl
    have hzl : z.size = zs.length := by simpa using hzl
    have hput := foldl_put (a.eval q.2).cells.toList p.1 0 z (by simp; omega)
    obtain ⟨ys, k1, k2⟩ := fill_sound hF (z := (((a.eval q.2).cells.toList.zipIdx 0).foldl (fun cs x => cs.setIfInBounds (p.1 + x.2) x.1) z)) h2 (zs := zs') (by
      rw [hput, ← ho, ← List.append_assoc]
      refine VRs.append (VRs.append (hz.take _) hv) ?_
      have : p.1 + 0 + (a.eval q.2).cells.toList.length = p.1 + (p.2.2.ev τ).cells.length := by simp; omega
      rw [this]; exact hz.drop _) hf
    refine ⟨ys, ?_, k2⟩
    rw [List.map_cons, Instr.fill]
    simp only [hp]
    rw [if_neg (by simp; omega), ← Array.foldl_toList, Array.toList_zipIdx]
    exact k1
end

section
variable (tt : TT)
/-- Where a struct's fields lie. -/
def placesT (fs : List Field) : Option (List (Nat × Nat)) :=
  match fs with
  | [] => some []
  | f :: fs => (tt f.type).bind fun s => (placesT fs).bind fun r => some ((f.offset, s.size) :: r)
def cBuild (zero : List AV) (parts : List (Nat × Nat × Opd)) : Op → Option Unit
  | .build t ps => onT tt t fun s => s.zero.bind fun z => match s.desc with
    | .struct fs => (placesT tt fs.toList).bind fun pl => yes? (ckVs zero z.cells.toList && ckParts (fun i => pl[i]?) parts ps.toList)
    | .array _ e => onT tt e fun se => yes? (ckVs zero z.cells.toList && ckParts (fun i => some (i * se.size, se.size)) parts ps.toList)
    | _ => none
  | _ => none
def cBuildSlice (zero : List AV) (esz len : Nat) (parts : List (Nat × Nat × Opd)) : Op → Option Unit
  | .buildSlice t n ps => onT tt t fun s => match s.desc with
    | .slice e => onT tt e fun se => se.zero.bind fun z => yes? (Nat.beq n len && (Nat.beq se.size esz && (Nat.ble (n * esz) 16777216 && (Nat.beq z.cells.size esz && (ckVs zero z.cells.toList && ckParts (fun i => some (i * esz, esz)) parts ps.toList)))))
    | _ => none
  | _ => none
def cMkSlice (zero : List AV) (esz bytes : Nat) (len cap : Opd) : Op → Option Unit
  | .makeSlice t l c => onT tt t fun s => match s.desc with
    | .slice e => onT tt e fun se => se.zero.bind fun z => yes? (Nat.beq se.size esz && (Nat.beq se.bytes bytes && (Nat.beq z.cells.size esz && (ckVs zero z.cells.toList && (ckO len l && ckO cap c)))))
    | _ => none
  | _ => none
def cField (off : Nat) (agg : Option Nat) (x : Opd) : Op → Option Unit
  | .field t y f => onT tt t fun s => match s.desc with
    | .struct fs => match fs[f]? with
      | some fd => onT tt fd.type fun sf => yes? (Nat.beq fd.offset off && (ckO x y && (match agg with | some n => isAggD sf.desc && Nat.beq sf.size n | none => !isAggD sf.desc)))
      | none => none
    | _ => none
  | _ => none
def cIdxArr (n esz : Nat) (agg : Bool) (x i : Opd) : Op → Option Unit
  | .index t y j => onT tt t fun s => match s.desc with
    | .array len e => onT tt e fun se => yes? (Nat.beq len n && (Nat.beq se.size esz && (ckO x y && (ckO i j && (agg == isAggD se.desc)))))
    | _ => none
  | _ => none
end

theorem placesT_sound {tt : TT} {P : Program} (hT : TTok tt P) : ∀ {fs : List Field} {pl : List (Nat × Nat)}, placesT tt fs = some pl → fs.mapM (fun f => (P.info? f.type).map fun i => (f.offset, i.size)) = some pl
  | [], pl, h => by cases h; rfl
  | f :: fs, pl, h => by
    simp only [placesT, Option.bind_eq_some_iff] at h
    obtain ⟨s, h1, r, h2, h3⟩ := h
    cases h3
    obtain ⟨_, ⟨i, g2, g3, _⟩, _⟩ := hT f.type s h1
    simp [List.mapM_cons, g2, placesT_sound hT h2, g3]

section
variable {tt : TT} {CR : CRel} {B N : Nat} {P : Program} {H : AH} {μ : Mu} {w : World} {τ : Fr AV} {a : Act} {u : Unit} {out : Out} {o : Oper}

theorem s_build (hT : TTok tt P) (hF : FR N μ τ a.tmps) (h : HR CR B H μ w) {zero : List AV} {parts : List (Nat × Nat × Opd)} (hc : cBuild tt zero parts o.op = some u) (hr : rBuild zero parts τ H = some out) : Good CR B H μ w ((execOp a.eval o).run P w) out := by
  unfold cBuild at hc
  split at hc <;> first | cases hc | skip
  rename_i t ps ho
  obtain ⟨s, i, g1, g2, g3, g4, g5, g6⟩ := onT_some hT hc
  obtain ⟨z, hz, hk⟩ := Option.bind_eq_some_iff.1 g6
  unfold rBuild at hr
  obtain ⟨cs, hfil, hh⟩ := obind_eq_some.1 hr; cases hh
  have e : (ps.map fun (i, x) => (i, a.eval x)).toList = ps.toList.map fun q => (q.1, a.eval q.2) := by simp
  split at hk <;> first | cases hk | skip
  · rename_i fs hd
    obtain ⟨pl, hpl, hk⟩ := Option.bind_eq_some_iff.1 hk
    rw [yes?_some] at hk; simp only [Bool.and_eq_true] at hk
    obtain ⟨ys, k1, k2⟩ := fill_sound hF hk.2 (ckVs_sound μ _ _ hk.1) hfil
    refine quietV h (y := .agg ys) ?_ ⟨ys, rfl, k2⟩
    have := run_build (P := P) w t (ps.map fun (i, x) => (i, a.eval x)) ys (by
      unfold Program.built
      rw [g2, g1, hd]
      simp only [g5.trans hz, placesT_sound hT hpl]
      rw [e]; simpa using k1)
    simp [execOp, ho, this]
  · rename_i n el hd
    obtain ⟨s', i', k1, k2, k3, k4, k5, k6⟩ := onT_some hT hk
    rw [yes?_some] at k6; simp only [Bool.and_eq_true] at k6
    obtain ⟨ys, q1, q2⟩ := fill_sound hF k6.2 (ckVs_sound μ _ _ k6.1) hfil
    refine quietV h (y := .agg ys) ?_ ⟨ys, rfl, q2⟩
    have := run_build (P := P) w t (ps.map fun (i, x) => (i, a.eval x)) ys (by
      unfold Program.built
      rw [g2, g1, hd]
      simp only [g5.trans hz, k2]
      rw [e, k3]; exact q1)
    simp [execOp, ho, this]

theorem run_buildSlice {t el : TypeId} {n : Nat} {i : TypeInfo} {z : Value} {parts : Array (Nat × Value)} {ys : Array Value} (g1 : P.underlying t = some (.slice el)) (k2 : P.info? el = some i) (hz : i.zero = some z)
    (hn : n * i.size ≤ 16777216) (hf : Instr.fill (fun j => some (j * i.size, i.size)) (madeCells z.cells (n * i.size)) parts.toList = some ys) :
    (Instr.buildSlice t n parts).run P w = .ok (.slice (some ⟨w.heap.size, 0, none⟩) n n) (w.alloc (.cells ys el)) := by
  have hzr := run_zeroValue' (w := w) k2 hz
  by_cases h0 : n * i.size = 0
  · have e : madeCells z.cells (n * i.size) = madeCells #[] (n * i.size) := by unfold madeCells; rw [h0]; simp [Array.range_zero']
    rw [e] at hf
    unfold madeCells at hf
    have hs : (sizeOf el).run P w = .ok i.size w := run_sizeOf' k2
    simp only [Instr.buildSlice, Sem.run_bind, run_underlying g1, Result.andThen_ok, hs]
    rw [if_neg (by omega), if_pos h0]
    simp only [Sem.run_bind, Sem.run_pure, Result.andThen_ok, hf]
    simp [newRow]
  · unfold madeCells at hf
    have hs : (sizeOf el).run P w = .ok i.size w := run_sizeOf' k2
    simp only [Instr.buildSlice, Sem.run_bind, run_underlying g1, Result.andThen_ok, hs]
    rw [if_neg (by omega), if_neg h0]
    simp only [Sem.run_bind, Sem.run_pure, Result.andThen_ok, hf, hzr]
    simp [newRow]

theorem s_buildSlice (hT : TTok tt P) (hF : FR N μ τ a.tmps) (h : HR CR B H μ w) {zero : List AV} {esz len : Nat} {parts : List (Nat × Nat × Opd)} (hc : cBuildSlice tt zero esz len parts o.op = some u) (hr : rBuildSlice zero esz len parts τ H = some out) : Good CR B H μ w ((execOp a.eval o).run P w) out := by
  unfold cBuildSlice at hc
  split at hc <;> first | cases hc | skip
  rename_i t n ps ho
  obtain ⟨s, i, g1, g2, g3, g4, g5, g6⟩ := onT_some hT hc
  split at g6 <;> first | cases g6 | skip
  rename_i el hd
  obtain ⟨s', i', k1, k2, k3, k4, k5, k6⟩ := onT_some hT g6
  obtain ⟨z, hz, hk⟩ := Option.bind_eq_some_iff.1 k6
  rw [yes?_some] at hk; simp only [Bool.and_eq_true] at hk
  obtain ⟨q1, q2, q3, q4, q5, q6⟩ := hk
  have q1 : n = len := by simpa using q1
  have q2 : s'.size = esz := by simpa using q2
  have q4 : z.cells.size = esz := by simpa using q4
  have q3 := Nat.le_of_ble_eq_true q3
  subst q1
  unfold rBuildSlice at hr
  obtain ⟨cs, hfil, hh⟩ := obind_eq_some.1 hr; cases hh
  have e : (ps.map fun (i, x) => (i, a.eval x)).toList = ps.toList.map fun q => (q.1, a.eval q.2) := by simp
  have hm := (ckVs_sound μ _ _ q5).made n
  rw [q4] at hm
  obtain ⟨ys, r1, r2⟩ := fill_sound hF q6 hm hfil
  have hfl : ys.size = n * esz := by
    have h1 := r2.length
    have h2 := fillC_length hfil
    have h3 := (ckVs_sound μ _ _ q5).length
    rw [repN_length] at h2
    simp at h1 h3
    rw [h1, h2, ← h3, q4]
  have hrun : (execOp a.eval o).run P w = .ok (.value (.slice (some ⟨w.heap.size, 0, none⟩) n n)) (w.alloc (.cells ys el)) := by
    have := run_buildSlice (P := P) (w := w) (t := t) (el := el) (n := n) (parts := ps.map fun (i, x) => (i, a.eval x)) (ys := ys) (by rw [g1, hd]) k2 (k5.trans hz) (by rw [k3, q2]; exact q3) (by
      rw [e, k3, q2]; unfold madeCells; rw [q4]; exact r1)
    simp [execOp, ho, this]
  exact newSl_good (w' := w.alloc (.cells ys el)) h (t := el) (cs := ys) (by rw [← r2.length, List.take_length]; exact r2) (by have := r2.length; simp at this; omega) rfl (Nat.le_refl _) (Nat.le_refl _) (fun _ => rfl) (by omega) hrun

theorem s_mkSlice (hT : TTok tt P) (hF : FR N μ τ a.tmps) (h : HR CR B H μ w) {zero : List AV} {esz bytes : Nat} {len cap : Opd} (hc : cMkSlice tt zero esz bytes len cap o.op = some u) (hr : rMkSlice zero esz bytes len cap τ H = some out) : Good CR B H μ w ((execOp a.eval o).run P w) out := by
  unfold cMkSlice at hc
  split at hc <;> first | cases hc | skip
  rename_i t l c ho
  obtain ⟨s, i, g1, g2, g3, g4, g5, g6⟩ := onT_some hT hc
  split at g6 <;> first | cases g6 | skip
  rename_i el hd
  obtain ⟨s', i', k1, k2, k3, k4, k5, k6⟩ := onT_some hT g6
  obtain ⟨z, hz, hk⟩ := Option.bind_eq_some_iff.1 k6
  rw [yes?_some] at hk; simp only [Bool.and_eq_true] at hk
  obtain ⟨q1, q2, q3, q4, q5, q6⟩ := hk
  have q1 : s'.size = esz := by simpa using q1
  have q2 : s'.bytes = bytes := by simpa using q2
  have q3 : z.cells.size = esz := by simpa using q3
  unfold rMkSlice at hr
  obtain ⟨kl, nl, e1, e2, hr⟩ := (ckO_sound hF q5).int hr
  obtain ⟨kc, nc, f1, f2, hr⟩ := (ckO_sound hF q6).int hr
  rw [ifb_none_eq_some] at hr
  obtain ⟨hb, hr⟩ := hr
  cases hr
  simp only [Bool.and_eq_true, ileb_eq, decide_eq_true_eq] at hb
  obtain ⟨⟨b1, b2⟩, b3, b4⟩ := hb
  have b4 := Nat.le_of_ble_eq_true b4
  have hbytes : (i'.bytes : Int) * nc ≤ 281474976710656 := by
    rw [k4, q2]
    have : (bytes : Int) * nc ≤ 4096 * 1000000000 := Int.mul_le_mul (by omega) b3 (by omega) (by omega)
    omega
  have hrun := run_make (P := P) w t el i' z (by rw [g1, hd]) k2 (k5.trans hz) kl kc nl nc b1 b2 hbytes (by omega)
  have hm := (ckVs_sound μ _ _ q4).made nc.toNat
  rw [q3] at hm
  rw [k3, q1] at hrun
  have hml : (madeCells z.cells (nc.toNat * esz)).size = nc.toNat * esz := size_madeCells _ _
  have hm : VRs μ (repN nc.toNat zero) (madeCells z.cells (nc.toNat * esz)).toList := by unfold madeCells; rw [q3]; exact hm
  refine newSl_good (w' := w.alloc (.cells (madeCells z.cells (nc.toNat * esz)) el)) h (t := el) (cs := madeCells z.cells (nc.toNat * esz)) (by rw [← hm.length, List.take_length]; exact hm) (by have := hm.length; simp at this; omega) rfl (by omega) (Nat.le_refl _) (fun _ => rfl) (by omega) ?_
  simp [execOp, ho, e2, f2, hrun]

theorem partV_sound {t : TypeId} {d : TypeDesc} {ii : TypeInfo} (hd : P.underlying t = some d) (hi : P.info? t = some ii) {cs : List AV} {ys : Array Value} (hv : VRs μ cs ys.toList) {off : Nat} {agg : Option Nat}
    (hg : (match agg with | some n => isAggD d = true ∧ ii.size = n | none => isAggD d = false)) {v : AV} (hp : partV off agg cs = some v) : ∃ y, (part t ys off).run P w = .ok y w ∧ VR μ v y := by
  cases agg with
  | none =>
    have hp : nth cs off = some v := hp
    rw [nth_eq] at hp
    obtain ⟨y, h1, h2⟩ := hv.get hp
    have e : (isAgg t).run P w = .ok false w := by rw [run_isAgg hd]; cases d <;> simp [isAggD] at hg <;> rfl
    have h1 : ys[off]? = some y := by simpa using h1
    exact ⟨y, by simp [part, e, h1], h2⟩
  | some n =>
    obtain ⟨hg1, hg2⟩ := hg
    have hp : (takeN n (dropN off cs)).obind (fun vs => some (AV.agg vs)) = some v := hp
    obtain ⟨vs, h1, h2⟩ := obind_eq_some.1 hp
    cases h2
    rw [dropN_eq, takeN_eq] at h1
    split at h1 <;> simp at h1
    subst h1
    have e : (isAgg t).run P w = .ok true w := by rw [run_isAgg hd]; cases d <;> simp [isAggD] at hg1 <;> rfl
    refine ⟨.agg (ys.extract off (off + n)), by simp [part, e, run_sizeOf' hi, hg2], _, rfl, ?_⟩
    rw [Array.toList_extract]
    simpa [List.extract] using (hv.drop off).take n

theorem s_field (hT : TTok tt P) (hF : FR N μ τ a.tmps) (h : HR CR B H μ w) {off : Nat} {agg : Option Nat} {x : Opd} (hc : cField tt off agg x o.op = some u) (hr : rField off agg x τ H = some out) : Good CR B H μ w ((execOp a.eval o).run P w) out := by
  unfold cField at hc
  split at hc <;> first | cases hc | skip
  rename_i t y f ho
  obtain ⟨s, i, g1, g2, g3, g4, g5, g6⟩ := onT_some hT hc
  split at g6 <;> first | cases g6 | skip
  rename_i fs hd
  split at g6 <;> first | cases g6 | skip
  rename_i fd hfd
  obtain ⟨s', i', k1, k2, k3, k4, k5, k6⟩ := onT_some hT g6
  rw [yes?_some] at k6; simp only [Bool.and_eq_true] at k6
  obtain ⟨q1, q2, q3⟩ := k6
  have q1 : fd.offset = off := by simpa using q1
  unfold rField at hr
  obtain ⟨cs, ys, e1, e2, e3, hr⟩ := (ckO_sound hF q2).aggE hr
  obtain ⟨v, hv, rfl⟩ := valK_some hr
  obtain ⟨y', p1, p2⟩ := partV_sound (P := P) (w := w) (t := fd.type) k1 k2 e3 (agg := agg) (by
    cases agg <;> simp at q3 ⊢
    · exact q3
    · exact ⟨q3.1, by omega⟩) hv
  refine quietV h ?_ p2
  simp [execOp, ho, Instr.field, run_underlying g1, hd, hfd, e2, asAgg, q1, p1]

theorem s_idxArr (hT : TTok tt P) (hF : FR N μ τ a.tmps) (h : HR CR B H μ w) {n esz : Nat} {agg : Bool} {x i : Opd} (hc : cIdxArr tt n esz agg x i o.op = some u) (hr : rIdxArr n esz agg x i τ H = some out) : Good CR B H μ w ((execOp a.eval o).run P w) out := by
  unfold cIdxArr at hc
  split at hc <;> first | cases hc | skip
  rename_i t y j ho
  obtain ⟨s, ii, g1, g2, g3, g4, g5, g6⟩ := onT_some hT hc
  split at g6 <;> first | cases g6 | skip
  rename_i len el hd
  obtain ⟨s', i', k1, k2, k3, k4, k5, k6⟩ := onT_some hT g6
  rw [yes?_some] at k6; simp only [Bool.and_eq_true] at k6
  obtain ⟨q1, q2, q3, q4, q5⟩ := k6
  have q1 : len = n := by simpa using q1
  have q2 : s'.size = esz := by simpa using q2
  have q5 : agg = isAggD s'.desc := by simpa using q5
  unfold rIdxArr at hr
  obtain ⟨cs, ys, e1, e2, e3, hr⟩ := (ckO_sound hF q3).aggE hr
  obtain ⟨k, m, f1, f2, hr⟩ := (ckO_sound hF q4).int hr
  rw [ifb_none_eq_some] at hr
  obtain ⟨hb, hr⟩ := hr
  simp only [Bool.and_eq_true, ileb_eq, iltb_eq, decide_eq_true_eq] at hb
  obtain ⟨v, hv, rfl⟩ := valK_some hr
  obtain ⟨y', p1, p2⟩ := partV_sound (P := P) (w := w) (t := el) k1 k2 e3 (agg := ifb agg (some esz) none) (by
    subst q5
    cases hh : isAggD s'.desc <;> simp [ifb_eq]
    · exact k3.trans q2) hv
  refine quietV h ?_ p2
  have hm : m < (len : Int) := by rw [q1]; exact hb.2
  simp [execOp, ho, Instr.index, run_underlying g1, hd, e2, f2, asIntOf, run_sizeOf' k2, k3, q2, p1, hm, hb.1]
end
end Go.Ai
