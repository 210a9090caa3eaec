/- Calls of the library that are answered by a contract: a plain value, and nothing that was there changes. -/
import Derived.Test.YtebmoofioikenaaGreatDoorAi29
import Derived.Below
import Derived.Lib.Bytealg
import Derived.Lib.Join
namespace Go.Ai
open Go Go.RowKit

noncomputable section
def flatO (k : Nat) (S : List AV → AH → Option AV) (f : AV) (args : List AV) (H : AH) : Option Res :=
  match f with
  | .fn k' [] [] => ifb (Nat.beq k' k) ((S args H).obind fun v => some (resOf v H)) none
  | _ => none
end
theorem flatO_some {k : Nat} {S : List AV → AH → Option AV} {f : AV} {args : List AV} {H : AH} {r : Res} (h : flatO k S f args H = some r) : ∃ v, f = .fn k [] [] ∧ S args H = some v ∧ r = resOf v H := by
  unfold flatO at h
  split at h
  · rw [ifb_none_eq_some] at h
    obtain ⟨h1, h2⟩ := h
    have h1 := Nat.eq_of_beq_eq_true h1
    subst h1
    obtain ⟨v, h3, h4⟩ := obind_eq_some.1 h2
    exact ⟨v, rfl, h3, (Option.some.inj h4).symm⟩
  · cases h

/-- What a function gives, told on the heap. -/
structure FlatSays (P : Program) (k : Nat) (S : List AV → AH → Option AV) : Prop where
  fn : ∃ fn, P.funcs[k]? = some fn ∧ fn.body.isSome = true ∧ (fn.name == "runtime.NumGoroutine") = false
  run : ∀ {CR : CRel} {B : Nat} {H : AH} {μ : Mu} {w : World} {args : List AV} {vs : Array Value} {v : AV}, HR CR B H μ w → VRs μ args vs.toList → S args H = some v →
    Calls P k vs w fun e w' => ∃ y, e = .returned y ∧ VR μ v y ∧ Below w.heap.size w w'

theorem flatO_ok {CR : CRel} {P : Program} {k : Nat} {S : List AV → AH → Option AV} (h : FlatSays P k S) : OrOK CR P (flatO k S) := by
  refine ⟨fun v args H r hr => ?_, fun {v args H r} hr => ?_, fun {k' first cap args H r} hr {B μ w vs} hh hv hf => ?_⟩
  · obtain ⟨v, _, _, rfl⟩ := flatO_some hr; exact AE.refl _
  · obtain ⟨v, rfl, _⟩ := flatO_some hr; exact ⟨_, _, _, rfl⟩
  · obtain ⟨v, e1, hS, rfl⟩ := flatO_some hr
    cases e1
    simp only [List.nil_append, List.append_nil] at hv
    refine ⟨h.fn, fun F R hW hRR => callsIn_of_calls hW ((h.run hh hv hS).mono ?_)⟩
    rintro e w' ⟨y, rfl, hy, hb⟩
    have hkeep : ∀ c, c < w.heap.size → w'.heap[c]? = w.heap[c]? := fun c hc => hb.block c hc
    exact hRR y w' μ hy ⟨fun b e x hb' hx => (hh.blk b e x hb' hx).heap (hkeep _ (hh.ins b e hb')), hh.sep, hh.low, fun b e hb' => Nat.lt_of_lt_of_le (hh.ins b e hb') hb.size, hh.top, hh.lim, hh.hid, hh.exc, Nat.le_trans hh.base hb.size, hh.gl⟩
      ⟨μ.le_refl, fun _ _ h => .inl h, hb.size, fun c hc _ => hkeep c hc, fun b e g1 g2 => (by rw [g1] at g2; cases g2), Nat.le_refl _, fun _ _ h => h, fun _ x _ h => ⟨⟨x, h, id⟩, fun _ => h⟩, ⟨hb.os, hb.output⟩, rfl, rfl, rfl, rfl⟩

/-! ### The first place of a byte -/
noncomputable def idxN (c : Nat) (l : List UInt8) : Int → Int :=
  List.rec (motive := fun _ => Int → Int) (fun _ => -1) (fun b _ ih i => ifb (Nat.beq b.toNat c) i (ih (Int.add i 1))) l
theorem idxN_eq (c : UInt8) (l : List UInt8) (i : Int) : idxN c.toNat l i = if Lib.indexByte l c = -1 then -1 else i + Lib.indexByte l c := by
  induction l generalizing i with
  | nil => rfl
  | cons b l ih =>
    have e : idxN c.toNat (b :: l) i = ifb (Nat.beq b.toNat c.toNat) i (idxN c.toNat l (i + 1)) := rfl
    rw [e, ih]
    have hge := Lib.indexByte_ge l c
    have hd : Lib.indexByte (b :: l) c = if b == c then 0 else if Lib.indexByte l c == -1 then -1 else Lib.indexByte l c + 1 := rfl
    rw [hd]
    generalize Lib.indexByte l c = q at hge ⊢
    by_cases hb : b = c
    · subst hb
      have hq : Nat.beq b.toNat b.toNat = true := Nat.beq_refl _
      rw [hq]
      simp
    · have hb' : (b == c) = false := by simpa using hb
      have hq : Nat.beq b.toNat c.toNat = false := by
        cases h : Nat.beq b.toNat c.toNat with
        | false => rfl
        | true => exact absurd (UInt8.toNat_inj.1 (Nat.eq_of_beq_eq_true h)) hb
      rw [hq]
      simp only [ifb_false]
      simp only [hb', Bool.false_eq_true, if_false]
      by_cases h1 : q = -1
      · simp [h1]
      · have h2 : (q == -1) = false := by simpa using h1
        simp only [h1, h2, Bool.false_eq_true, if_false]
        rw [if_neg (by omega)]
        omega
noncomputable def idxS (args : List AV) (_ : AH) : Option AV :=
  match args with
  | [.str s, .int .u8 (.ofNat c)] => ifb (Nat.ble c 255) (some (.int .i64 (idxN c s 0))) none
  | _ => none
theorem idx_says {P : Program} {k : Nat} (fn : ∃ fn, P.funcs[k]? = some fn ∧ fn.body.isSome = true ∧ (fn.name == "runtime.NumGoroutine") = false)
    (h : ∀ (s : ByteArray) (c : Int) (w : World), Calls P k #[.string s, .int .u8 c] w fun e w' => e = .returned (.int .i64 (Lib.indexByte s.data.toList c.toNat.toUInt8)) ∧ w' = w) : FlatSays P k idxS := by
  refine ⟨fn, fun {CR B H μ w args vs v} hh hv hS => ?_⟩
  unfold idxS at hS
  split at hS
  · rename_i s c
    rw [ifb_none_eq_some] at hS
    obtain ⟨hc, hS⟩ := hS
    have hc := Nat.le_of_ble_eq_true hc
    obtain ⟨y1, r1, e1, g1, y2, r2, e2, g2, e3⟩ := hv
    cases e3
    subst e2
    have g1 : y1 = .string ⟨s.toArray⟩ := g1
    have g2 : y2 = .int .u8 (.ofNat c) := g2
    subst g1 g2
    have hvs : vs = #[Value.string ⟨s.toArray⟩, .int .u8 (.ofNat c)] := by cases vs; simp_all
    subst hvs
    refine (h ⟨s.toArray⟩ (.ofNat c) w).mono ?_
    rintro e w' ⟨rfl, rfl⟩
    refine ⟨_, rfl, ?_, Below.refl _ _⟩
    cases hS
    show Value.int .i64 _ = Value.int .i64 _
    have h8 : (Int.toNat (.ofNat c)).toUInt8 = UInt8.ofNat c := rfl
    have hn : (UInt8.ofNat c).toNat = c := by rw [UInt8.toNat_ofNat']; omega
    rw [h8]
    have := idxN_eq (UInt8.ofNat c) s 0
    rw [hn] at this
    rw [this]
    split
    · rename_i h1; rw [h1]
    · simp
  · cases hS

/-! ### How often a byte stands -/
noncomputable def cntN (c : Nat) (l : List UInt8) : Nat := List.rec (motive := fun _ => Nat) 0 (fun b _ ih => ifb (Nat.beq b.toNat c) (Nat.succ ih) ih) l
theorem cntN_eq (c : UInt8) (l : List UInt8) : cntN c.toNat l = Lib.countByte l c := by
  induction l with
  | nil => rfl
  | cons b l ih =>
    have e : cntN c.toNat (b :: l) = ifb (Nat.beq b.toNat c.toNat) (Nat.succ (cntN c.toNat l)) (cntN c.toNat l) := rfl
    rw [e, ih]
    unfold Lib.countByte
    rw [List.count_cons]
    by_cases hb : b = c
    · subst hb
      rw [show Nat.beq b.toNat b.toNat = true from Nat.beq_refl _]
      simp
    · have hb' : (b == c) = false := by simpa using hb
      have hq : Nat.beq b.toNat c.toNat = false := by
        cases h : Nat.beq b.toNat c.toNat with
        | false => rfl
        | true => exact absurd (UInt8.toNat_inj.1 (Nat.eq_of_beq_eq_true h)) hb
      rw [hq]
      simp [hb']
noncomputable def cntS (args : List AV) (_ : AH) : Option AV :=
  match args with
  | [.str s, .str [c]] => some (.int .i64 (.ofNat (cntN c.toNat s)))
  | _ => none
theorem cnt_says {P : Program} {k : Nat} (fn : ∃ fn, P.funcs[k]? = some fn ∧ fn.body.isSome = true ∧ (fn.name == "runtime.NumGoroutine") = false)
    (h : ∀ (s : ByteArray) (c : UInt8) (w : World), Calls P k #[.string s, .string ⟨#[c]⟩] w fun e w' => e = .returned (.int .i64 (Lib.countByte s.data.toList c)) ∧ w' = w) : FlatSays P k cntS := by
  refine ⟨fn, fun {CR B H μ w args vs v} hh hv hS => ?_⟩
  unfold cntS at hS
  split at hS
  · rename_i s c
    cases hS
    obtain ⟨y1, r1, e1, g1, y2, r2, e2, g2, e3⟩ := hv
    cases e3
    subst e2
    have g1 : y1 = .string ⟨s.toArray⟩ := g1
    have g2 : y2 = .string ⟨#[c]⟩ := g2
    subst g1 g2
    have hvs : vs = #[Value.string ⟨s.toArray⟩, .string ⟨#[c]⟩] := by cases vs; simp_all
    subst hvs
    refine (h ⟨s.toArray⟩ c w).mono ?_
    rintro e w' ⟨rfl, rfl⟩
    refine ⟨_, rfl, ?_, Below.refl _ _⟩
    show Value.int .i64 _ = Value.int .i64 _
    rw [cntN_eq]; rfl
  · cases hS

/-! ### strings.Join -/
noncomputable def strsOf (l : List AV) : Option (List (List UInt8)) :=
  List.rec (motive := fun _ => Option (List (List UInt8))) (some []) (fun v _ ih => v.strK fun s => ih.obind fun r => some (s :: r)) l
noncomputable def joinT (sep : List UInt8) (l : List (List UInt8)) : List UInt8 := List.rec (motive := fun _ => List UInt8) [] (fun y _ ih => sep ++ (y ++ ih)) l
theorem joinT_eq (sep : List UInt8) (l : List (List UInt8)) : joinT sep l = Lib.joinTail sep l := by
  induction l with
  | nil => rfl
  | cons y l ih =>
    have e : joinT sep (y :: l) = sep ++ (y ++ joinT sep l) := rfl
    rw [e, ih]; simp [Lib.joinTail]
noncomputable def joinC (n : Nat) (l : List (List UInt8)) (sep : List UInt8) : Option AV :=
  List.rec (motive := fun _ => Option AV) none (fun x r _ => ifb (Nat.ble (x ++ joinT sep r).length 140737488355328) (ifb (Nat.ble n 140737488355328) (some (.str (x ++ joinT sep r))) none) none) l
noncomputable def joinS (args : List AV) (H : AH) : Option AV :=
  match args with
  | [.sl (some (b, o)) n _ _ z, .str sep] => ifb (Nat.beq z 1) (ifb (Nat.ble 1 n) ((H.ld b o n).obind fun cs => (strsOf cs).obind fun l => joinC n l sep) none) none
  | _ => none

theorem strsOf_cells {μ : Mu} : ∀ {cs : List AV} {l : List (List UInt8)} {ys : List Value}, strsOf cs = some l → VRs μ cs ys → l.length = cs.length ∧ ∀ (j : Nat) (x : List UInt8), l[j]? = some x → ys[j]? = some (Value.string ⟨x.toArray⟩) := by
  intro cs
  induction cs with
  | nil => intro l ys h hv; cases h; exact ⟨rfl, fun j x hx => by simp at hx⟩
  | cons c cs ih =>
    intro l ys h hv
    obtain ⟨y, r, e1, g1, g2⟩ := hv
    subst e1
    have h : c.strK (fun s => (strsOf cs).obind fun r => some (s :: r)) = some l := h
    obtain ⟨s, rfl, rfl, hq⟩ := g1.str h
    clear h
    obtain ⟨r', h2, h3⟩ := obind_eq_some.1 hq
    cases h3
    obtain ⟨i1, i2⟩ := ih h2 g2
    refine ⟨by simp [i1], fun j x hx => ?_⟩
    cases j with
    | zero => simp at hx; subst hx; simp
    | succ j => simpa using i2 j x (by simpa using hx)

theorem join_says {P : Program} {k : Nat} (fn : ∃ fn, P.funcs[k]? = some fn ∧ fn.body.isSome = true ∧ (fn.name == "runtime.NumGoroutine") = false)
    (h : ∀ (bk o c : Nat) (xs : List ByteArray) (sep : ByteArray) (w : World), (∀ (j : Nat) x, xs[j]? = some x → w.cell? ⟨bk, o + j, none⟩ = some (.string x)) → bk < w.heap.size → xs.length ≤ 140737488355328 → xs.length ≤ c →
      (Lib.join (xs.map (·.data.toList)) sep.data.toList).length ≤ 140737488355328 →
      Calls P k #[.slice (some ⟨bk, o, none⟩) xs.length c, .string sep] w fun e w' => e = .returned (.string ⟨(Lib.join (xs.map (·.data.toList)) sep.data.toList).toArray⟩) ∧ Below w.heap.size w w') : FlatSays P k joinS := by
  refine ⟨fn, fun {CR B H μ w args vs v} hh hv hS => ?_⟩
  unfold joinS at hS
  split at hS
  · rename_i b o n cap ex z sep
    rw [ifb_none_eq_some, ifb_none_eq_some] at hS
    obtain ⟨hz, hn, hS⟩ := hS
    have hz : z = 1 := by simpa using hz
    have hn := Nat.le_of_ble_eq_true hn
    subst hz
    obtain ⟨cs, hl, hS⟩ := obind_eq_some.1 hS
    obtain ⟨l, hs, hS⟩ := obind_eq_some.1 hS
    obtain ⟨y1, r1, e1, ⟨ad, cap', s1, s2, s3, s4, s5⟩, y2, r2, e2, g2, e3⟩ := hv
    cases e3
    subst e2
    have g2 : y2 = .string ⟨sep.toArray⟩ := g2
    subst g2
    subst s1
    have hvs : vs = #[Value.slice (some ad) n cap', .string ⟨sep.toArray⟩] := by cases vs; simp_all
    subst hvs
    rcases s5 with s5 | ⟨im, m1, m2, m3⟩
    · omega
    subst m2
    obtain ⟨ys, y1, y2, y3⟩ := ld_sound hh m1 hl
    obtain ⟨k1, k2⟩ := strsOf_cells hs y1
    have hlen : l.length = n := by rw [k1, ← y1.length, y2]
    cases l with
    | nil => cases hS
    | cons x r =>
      have hS : ifb (Nat.ble (x ++ joinT sep r).length 140737488355328) (ifb (Nat.ble n 140737488355328) (some (AV.str (x ++ joinT sep r))) none) none = some v := hS
      rw [ifb_none_eq_some, ifb_none_eq_some] at hS
      obtain ⟨h1, h2, hS⟩ := hS
      have h1 := Nat.le_of_ble_eq_true h1
      have h2 := Nat.le_of_ble_eq_true h2
      cases hS
      have hmap : ((x :: r).map fun l => (⟨l.toArray⟩ : ByteArray)).map (·.data.toList) = x :: r := by
        rw [List.map_map]; conv => rhs; rw [← List.map_id (x :: r)]
        exact List.map_congr_left fun a _ => by simp
      have hj : Lib.join (((x :: r).map fun l => (⟨l.toArray⟩ : ByteArray)).map (·.data.toList)) (⟨sep.toArray⟩ : ByteArray).data.toList = x ++ joinT sep r := by
        rw [hmap, Lib.join_cons, joinT_eq]
      have hc := h im.c (im.d + o) cap' ((x :: r).map fun l => (⟨l.toArray⟩ : ByteArray)) ⟨sep.toArray⟩ w (fun j z hz => by
        rw [List.getElem?_map] at hz
        cases hx : (x :: r)[j]? with
        | none => rw [hx] at hz; cases hz
        | some q =>
          rw [hx] at hz; cases hz
          exact y3 j _ (k2 j q hx)) (hh.ins _ _ m1) (by rw [List.length_map, hlen]; exact h2) (by rw [List.length_map, hlen]; omega) (by rw [hj]; exact h1)
      rw [hj, List.length_map, hlen] at hc
      refine hc.mono ?_
      rintro e w' ⟨rfl, hb⟩
      exact ⟨_, rfl, rfl, hb⟩
  · cases hS
end Go.Ai
