/- Calls that are answered by a theorem: a strings.Builder's check, and its text. -/
import Derived.Test.YtebmoofioikenaaGreatDoorAi28
import Derived.Laws.Append
namespace Go.Ai
open Go

theorem callsIn_of_calls {F : Fence} (hW : FW F) {P : Program} {f : FuncId} {args : Array Value} {w : World} {R : Ending → World → Prop} (h : Calls P f args w R) : CallsIn F 0 P f args w R := by
  refine callsIn_plain ?_
  have e : F.plain = Fence.wide := by
    obtain ⟨fn, depth, alive, round⟩ := F
    obtain ⟨h1, h2, h3⟩ := hW
    have h1 : fn = fun _ => True := funext fun f => propext ⟨fun _ => trivial, fun _ => h1 f⟩
    simp only at h2 h3
    subst h1 h2 h3; rfl
  rw [e]; exact callsIn_wide.2 h

/-- What copyCheck does, and what String gives: a program's own walks show it. -/
structure BuilderSays (P : Program) (kc ks T U : Nat) : Prop where
  fresh : ∀ (b : Nat) (w : World), w.cell? ⟨b, 0, none⟩ = some (.pointer none) → w.shape? b = some (T, 2) → w.frozen? ⟨b, 0, none⟩ = false →
    Calls P kc #[.pointer (some ⟨b, 0, none⟩)] w fun e w' => e = .returned (.tuple #[]) ∧ w' = w.setCell ⟨b, 0, none⟩ (.pointer (some ⟨b, 0, none⟩))
  used : ∀ (b : Nat) (w : World), w.cell? ⟨b, 0, none⟩ = some (.pointer (some ⟨b, 0, none⟩)) → Calls P kc #[.pointer (some ⟨b, 0, none⟩)] w fun e w' => e = .returned (.tuple #[]) ∧ w' = w
  text : ∀ (b g cap cells : Nat) (l : List UInt8) (w : World), l ≠ [] → w.cell? ⟨b, 1, none⟩ = some (.slice (some ⟨g, 0, none⟩) l.length cap) → l.length ≤ cap → w.shape? g = some (U, cells) → l.length ≤ cells → l.length ≤ 9223372036854775807 →
    (∀ j x, l[j]? = some x → w.cell? ((⟨g, 0, none⟩ : Addr).add j) = some (.int .u8 x.toNat)) →
    Calls P ks #[.pointer (some ⟨b, 0, none⟩)] w fun e w' => e = .returned (.string ⟨l.toArray⟩) ∧ w' = w.drew.freeze ⟨g, 0, none⟩ l.length
  fc : ∃ fn, P.funcs[kc]? = some fn ∧ fn.body.isSome = true ∧ (fn.name == "runtime.NumGoroutine") = false
  fs : ∃ fn, P.funcs[ks]? = some fn ∧ fn.body.isSome = true ∧ (fn.name == "runtime.NumGoroutine") = false

/-! ### The oracles -/
noncomputable section
/-- The call of a function with one pointer, that leads to a block's head. -/
def onPtr (k : Nat) (f : AV) (args : List AV) (H : AH) (K : Nat → ABlk → Option Res) : Option Res :=
  match f, args with
  | .fn k' [] [], [.ptr (some (b, o))] => ifb (Nat.beq k' k) (ifb (Nat.beq o 0) ((H.view b).obind fun x => K b x) none) none
  | _, _ => none
theorem onPtr_some {k : Nat} {f : AV} {args : List AV} {H : AH} {K : Nat → ABlk → Option Res} {r : Res} (h : onPtr k f args H K = some r) : ∃ b x, f = .fn k [] [] ∧ args = [.ptr (some (b, 0))] ∧ H.view b = some x ∧ K b x = some r := by
  unfold onPtr at h
  split at h
  · rename_i k' b o
    rw [ifb_none_eq_some, ifb_none_eq_some] at h
    obtain ⟨h1, h2, h3⟩ := h
    obtain ⟨x, h4, h5⟩ := obind_eq_some.1 h3
    have h1 : k' = k := by simpa using h1
    have h2 : o = 0 := by simpa using h2
    subst h1 h2
    exact ⟨b, x, rfl, rfl, h4, h5⟩
  · cases h

def resOf (v : AV) (H : AH) : Res := { ex := .normal, τ := .nil, H := H, v := v }

/-- (*strings.Builder).copyCheck. -/
def bldCheckK (T : Nat) (H : AH) (b : Nat) (x : ABlk) : Option Res :=
  match x with
  | .cells false [.ptr none, d] ty => ifb (Nat.beq ty (3 * T + 2)) (ifb (H.may b) (some (resOf (.tup []) (H.setB b (.cells false [.ptr (some (b, 0)), d] ty)))) none) none
  | .cells false [.ptr (some (b', o)), _] ty => ifb (Nat.beq ty (3 * T + 2)) (ifb (Nat.beq b' b) (ifb (Nat.beq o 0) (some (resOf (.tup []) H)) none) none) none
  | _ => none
def bldCheck (k T : Nat) (f : AV) (args : List AV) (H : AH) : Option Res := onPtr k f args H (bldCheckK T H)

def bytesOf (l : List AV) : Option (List UInt8) :=
  List.rec (motive := fun _ => Option (List UInt8)) (some [])
    (fun v _ ih => v.intK fun k n => ifb (beqK k .u8) (ifb (ileb 0 n) (ifb (ileb n 255) (ih.obind fun r => some (UInt8.ofNat n.toNat :: r)) none) none) none) l

/-- (*strings.Builder).String: the buffer can't be changed any more. -/
def bldTextK (T U : Nat) (H : AH) (x : ABlk) : Option Res :=
  match x with
  | .cells _ [_, .sl (some (g, o)) len cap _ z] ty => ifb (Nat.beq ty (3 * T + 2)) (ifb (Nat.beq o 0) (ifb (Nat.ble 1 len) (ifb (Nat.ble len cap) (ifb (Nat.beq z 1) (ifb (Nat.beq (H.tyOf g) (3 * U + 3)) (ifb (Nat.ble len 1000000000000)
      ((H.view g).obind fun y => y.cellsK fun ro vs => ifb ro none (ifb (H.may g) ((H.ld g 0 len).obind fun cs => (bytesOf cs).obind fun s => some (resOf (.str s) (H.setB g (.cells true vs)))) none)) none) none) none) none) none) none) none
  | _ => none
def bldText (k T U : Nat) (f : AV) (args : List AV) (H : AH) : Option Res := onPtr k f args H fun _ x => bldTextK T U H x
end

theorem bytesOf_cells : ∀ {cs : List AV} {s : List UInt8} {ys : List Value} {μ : Mu}, bytesOf cs = some s → VRs μ cs ys → s.length = cs.length ∧ ∀ (j : Nat) (x : UInt8), s[j]? = some x → ys[j]? = some (Value.int .u8 x.toNat) := by
  intro cs
  induction cs with
  | nil =>
    intro s ys μ h hv
    cases h
    exact ⟨rfl, fun j x hx => by simp at hx⟩
  | cons c cs ih =>
    intro s ys μ h hv
    obtain ⟨y, r, e1, g1, g2⟩ := hv
    subst e1
    have h : c.intK (fun k n => ifb (beqK k .u8) (ifb (ileb 0 n) (ifb (ileb n 255) ((bytesOf cs).obind fun r => some (UInt8.ofNat n.toNat :: r)) none) none) none) = some s := h
    obtain ⟨k, n, rfl, rfl, hq⟩ := g1.int h
    clear h
    rw [ifb_none_eq_some, ifb_none_eq_some, ifb_none_eq_some] at hq
    obtain ⟨hk, h0, h1, hq⟩ := hq
    have hk : k = .u8 := beqK_iff.1 hk
    subst hk
    rw [ileb_eq] at h0 h1
    have h0 : 0 ≤ n := by simpa using h0
    have h1 : n ≤ 255 := by simpa using h1
    obtain ⟨r', h2, h3⟩ := obind_eq_some.1 hq
    cases h3
    obtain ⟨i1, i2⟩ := ih h2 g2
    refine ⟨by simp [i1], fun j x hx => ?_⟩
    cases j with
    | zero =>
      simp at hx
      subst hx
      have : ((UInt8.ofNat n.toNat).toNat : Int) = n := by
        rw [UInt8.toNat_ofNat']; omega
      simp only [List.getElem?_cons_zero, this]
    | succ j => simpa using i2 j x (by simpa using hx)

section
variable {CR : CRel} {P : Program}

theorem bldCheck_ok {k ks T U : Nat} (S : BuilderSays P k ks T U) : OrOK CR P (bldCheck k T) := by
  refine ⟨fun v args H r h => ?_, fun {v args H r} h => ?_, fun {k' first cap args H r} h {B μ w vs} hh hv hf => ?_⟩
  · obtain ⟨b, x, rfl, rfl, hx, hr⟩ := onPtr_some h
    unfold bldCheckK at hr
    split at hr
    · rw [ifb_none_eq_some, ifb_none_eq_some] at hr
      obtain ⟨_, hm, hr⟩ := hr
      cases hr
      exact AE.setB _ hx hm rfl
    · rw [ifb_none_eq_some, ifb_none_eq_some, ifb_none_eq_some] at hr
      cases hr.2.2.2
      exact AE.refl _
    · cases hr
  · obtain ⟨b, x, rfl, _⟩ := onPtr_some h
    exact ⟨_, _, _, rfl⟩
  · obtain ⟨b, x, e1, rfl, hx, hr⟩ := onPtr_some h
    cases e1
    refine ⟨S.fc, fun F R hW hRR => callsIn_of_calls hW ?_⟩
    simp only [List.nil_append, List.append_nil] at hv
    obtain ⟨y, r', e1, ⟨e, m1, rfl⟩, e2⟩ := hv
    cases e2
    have hvs : vs = #[Value.pointer (some ⟨e.c, e.d + 0, none⟩)] := by cases vs; simp_all
    subst hvs
    unfold bldCheckK at hr
    have core : ∀ {a d : AV} {ty : Nat}, x = .cells false [a, d] ty → ty = 3 * T + 2 → e.d = 0 ∧ ∃ z1 z2 fz, w.heap[e.c]? = some (.cells #[z1, z2] T fz) ∧ VR μ a z1 ∧ VR μ d z2 ∧ (∀ k, k < 2 → ¬ (fz.1 ≤ k ∧ k < fz.2)) := by
      intro a d ty hxe hty
      subst hxe
      obtain ⟨cs, t, fz, b1, b2, b3, b4, b5⟩ := hh.blk b e _ m1 hx
      have b5 : ty = 0 ∨ ty = 1 ∨ (ty = 3 * t + 2 ∧ e.d = 0 ∧ 2 = cs.size) ∨ (ty = 3 * t + 3 ∧ e.d = 0) := b5
      rcases b5 with g | g | ⟨g, gd, gl⟩ | ⟨g, _⟩ <;> try omega
      have ht : (t : Nat) = (T : Nat) := by
        have g' : 3 * t + 2 = 3 * T + 2 := g.symm.trans hty
        exact Nat.eq_of_mul_eq_mul_left (by decide : 0 < 3) (Nat.add_right_cancel g')
      subst ht
      obtain ⟨l⟩ := cs
      simp at gl
      match l, gl with
      | [z1, z2], _ =>
        rw [gd] at b3
        obtain ⟨z1', _, q1, q2, z2', _, q3, q4, _⟩ := b3
        simp at q1 q3
        obtain ⟨rfl, rfl⟩ := q1
        simp at q3
        obtain ⟨rfl, _⟩ := q3
        exact ⟨gd, z1, z2, fz, b1, q2, q4, fun k hk => b4 rfl k (by simpa using hk)⟩
    split at hr
    · rename_i d ty
      rw [ifb_none_eq_some, ifb_none_eq_some] at hr
      obtain ⟨h1, hm, hr⟩ := hr
      have h1 : ty = 3 * T + 2 := by simpa using h1
      obtain ⟨gd, z1, z2, fz, b1, q1, q2, b4⟩ := core rfl h1
      cases hr
      have q1 : z1 = .pointer none := q1
      subst q1
      have hc := S.fresh e.c w (by simp [World.cell?, b1]) (by simp [World.shape?, b1]) (by
        simp only [World.frozen?, b1]
        have := b4 0 (by omega)
        by_cases g : fz.1 ≤ 0
        · have : ¬ 0 < fz.2 := fun h => this ⟨g, h⟩
          simp [this]
        · simp [g])
      have e0 : e.d + 0 = 0 := by omega
      rw [e0]
      refine hc.mono ?_
      rintro en w' ⟨rfl, rfl⟩
      have hset := setCell_eq_setRow w e.c 0 #[Value.pointer none, z2] T fz (.pointer (some ⟨e.c, 0, none⟩)) b1
      rw [hset]
      have hrow := setRow_heap w e.c #[Value.pointer none, z2] (#[Value.pointer none, z2].setIfInBounds 0 (.pointer (some ⟨e.c, 0, none⟩))) T fz b1
      obtain ⟨u1, u2⟩ := upd_sound (w' := w.setRow e.c (#[Value.pointer none, z2].setIfInBounds 0 (.pointer (some ⟨e.c, 0, none⟩)))) hh m1 hx rfl hm (x' := .cells false [.ptr (some (b, 0)), d] ty) rfl (setRow_size _ _ _) (fun c hc => setRow_other _ _ _ _ hc)
        ⟨_, T, fz, hrow, (by obtain ⟨cs, t, fz', c1, c2, _⟩ := hh.blk b e _ m1 hx; rw [b1] at c1; cases c1; simpa using c2), (by
          rw [gd]
          exact ⟨_, _, rfl, ⟨e, m1, by rw [gd]⟩, z2, [], rfl, q2, rfl⟩), fun _ k hk => b4 k (by simpa using hk), .inr (.inr (.inl ⟨h1, gd, rfl⟩))⟩
      exact hRR _ _ _ ⟨#[], rfl, rfl⟩ u1 u2
    · rename_i b' o d ty
      rw [ifb_none_eq_some, ifb_none_eq_some, ifb_none_eq_some] at hr
      obtain ⟨h1, h2, h3, hr⟩ := hr
      have h1 : ty = 3 * T + 2 := by simpa using h1
      have h2 : b' = b := by simpa using h2
      have h3 : o = 0 := by simpa using h3
      subst h2 h3
      obtain ⟨gd, z1, z2, fz, b1, q1, q2, b4⟩ := core rfl h1
      cases hr
      obtain ⟨e', m2, rfl⟩ := q1
      rw [m1] at m2; cases m2
      have e0 : e.d + 0 = 0 := by omega
      rw [e0] at b1 ⊢
      have hc := S.used e.c w (by simp [World.cell?, b1])
      refine hc.mono ?_
      rintro en w' ⟨rfl, rfl⟩
      exact hRR _ _ _ ⟨#[], rfl, rfl⟩ hh (Ext.refl _ _ _)
    · cases hr

theorem freeze_heap (w : World) (g n : Nat) {cs : Array Value} {t : TypeId} {fz : Nat × Nat} (h : w.heap[g]? = some (.cells cs t fz)) : ∃ fz', (w.drew.freeze ⟨g, 0, none⟩ n).heap[g]? = some (.cells cs t fz') := by
  have h' : w.drew.heap[g]? = some (.cells cs t fz) := h
  unfold World.freeze
  split
  · exact ⟨fz, h'⟩
  · obtain ⟨lo, hi⟩ := fz
    simp only [Array.getElem?_modify, if_pos, h', Option.map_some]
    exact ⟨_, rfl⟩
theorem freeze_other (w : World) (g n c : Nat) (h : c ≠ g) : (w.drew.freeze ⟨g, 0, none⟩ n).heap[c]? = w.heap[c]? := by
  unfold World.freeze
  split
  · rfl
  · simp only [Array.getElem?_modify]
    rw [if_neg (Ne.symm h)]; rfl
theorem freeze_size (w : World) (g n : Nat) : (w.drew.freeze ⟨g, 0, none⟩ n).heap.size = w.heap.size := by
  unfold World.freeze
  split
  · rfl
  · simp

theorem bldText_ok {kc k T' T U : Nat} (S : BuilderSays P kc k T' U) : OrOK CR P (bldText k T U) := by
  have key : ∀ {H : AH} {x : ABlk} {r : Res}, bldTextK T U H x = some r → ∃ ro a g len cap ex ty vs ty2 cs s, x = .cells ro [a, .sl (some (g, 0)) len cap ex 1] ty ∧ ty = 3 * T + 2 ∧ 1 ≤ len ∧ len ≤ cap ∧ len ≤ 1000000000000 ∧ ty2 = 3 * U + 3 ∧ H.view g = some (.cells false vs ty2) ∧ H.may g = true ∧ H.ld g 0 len = some cs ∧ bytesOf cs = some s ∧
      r = resOf (.str s) (H.setB g (.cells true vs)) := by
    intro H x r hr
    unfold bldTextK at hr
    split at hr
    · rename_i ro a g o len cap ex z ty
      simp only [ifb_none_eq_some] at hr
      obtain ⟨h0, h1, h2, h3, h4, h5, h6, hr⟩ := hr
      have h0 : ty = 3 * T + 2 := by simpa using h0
      have h1 : o = 0 := by simpa using h1
      have h4 : z = 1 := by simpa using h4
      subst h1 h4
      obtain ⟨y, hy, hr1⟩ := obind_eq_some.1 hr
      obtain ⟨ro2, vs, ty2, rfl, hr2⟩ := cellsK_some hr1
      rw [ifb_none_eq_some', ifb_none_eq_some] at hr2
      obtain ⟨rfl, hm, hr3⟩ := hr2
      obtain ⟨cs, hl, hr4⟩ := obind_eq_some.1 hr3
      obtain ⟨s, hs, hr5⟩ := obind_eq_some.1 hr4
      have h5 : H.tyOf g = 3 * U + 3 := by simpa using h5
      have h5' : H.tyOf g = ty2 := by unfold AH.tyOf; rw [hy]; rfl
      exact ⟨ro, a, g, len, cap, ex, ty, vs, ty2, cs, s, rfl, h0, Nat.le_of_ble_eq_true h2, Nat.le_of_ble_eq_true h3, Nat.le_of_ble_eq_true h6, by rw [← h5', h5], hy, hm, hl, hs, (Option.some.inj hr5).symm⟩
    · cases hr
  refine ⟨fun v args H r h => ?_, fun {v args H r} h => ?_, fun {k' first cap args H r} h {B μ w vs} hh hv hf => ?_⟩
  · obtain ⟨b, x, rfl, rfl, hx, hr⟩ := onPtr_some h
    obtain ⟨ro, a, g, len, cap, ex, ty, vs, ty2, cs, s, rfl, h0, h1, h2, h3, h4, hy, hm, hl, hs, rfl⟩ := key hr
    exact AE.setB _ hy hm rfl
  · obtain ⟨b, x, rfl, _⟩ := onPtr_some h
    exact ⟨_, _, _, rfl⟩
  · obtain ⟨b, x, e1, rfl, hx, hr⟩ := onPtr_some h
    cases e1
    obtain ⟨ro, a, g, len, cap, ex, ty, vs₂, ty2, cs, s, rfl, h0, h1, h2, h3, h4, hy, hm, hl, hs, rfl⟩ := key hr
    refine ⟨S.fs, fun F R hW hRR => callsIn_of_calls hW ?_⟩
    simp only [List.nil_append, List.append_nil] at hv
    obtain ⟨y, r', e1, ⟨e, m1, rfl⟩, e2⟩ := hv
    cases e2
    have hvs : vs = #[Value.pointer (some ⟨e.c, e.d + 0, none⟩)] := by cases vs; simp_all
    subst hvs
    -- the builder's own cells
    obtain ⟨cs1, t1, fz1, b1, b2, b3, b4, b5⟩ := hh.blk b e _ m1 hx
    obtain ⟨z1, r1, q1, q2, z2, r2, q3, q4, q5⟩ := b3
    cases q5
    subst q3
    obtain ⟨ad, cap', s1, s2, s3, s4, s5⟩ := q4
    subst s1
    rcases s5 with s5 | ⟨im, n1, n2, n3⟩
    · omega
    subst n2
    -- the row
    obtain ⟨cs2, t2, fz2, d1, d2, d3, d4, d5⟩ := hh.blk g im _ n1 hy
    have d5 : ty2 = 0 ∨ ty2 = 1 ∨ (ty2 = 3 * t2 + 2 ∧ im.d = 0 ∧ vs₂.length = cs2.size) ∨ (ty2 = 3 * t2 + 3 ∧ im.d = 0) := d5
    have hd : t2 = U ∧ im.d = 0 := by
      rcases d5 with g1 | g1 | ⟨g1, _⟩ | ⟨g1, gd⟩
      · omega
      · omega
      · exfalso; have : 3 * t2 + 2 = 3 * U + 3 := g1.symm.trans h4
        omega
      · refine ⟨?_, gd⟩
        have g' : 3 * t2 + 3 = 3 * U + 3 := g1.symm.trans h4
        exact Nat.eq_of_mul_eq_mul_left (by decide : 0 < 3) (Nat.add_right_cancel g')
    obtain ⟨rfl, hd0⟩ := hd
    obtain ⟨ys, y1, y2, y3⟩ := ld_sound hh n1 hl
    obtain ⟨k1, k2⟩ := bytesOf_cells hs y1
    have hlen : s.length = len := by rw [k1, ← y1.length, y2]
    have b5 : ty = 0 ∨ ty = 1 ∨ (ty = 3 * t1 + 2 ∧ e.d = 0 ∧ 2 = cs1.size) ∨ (ty = 3 * t1 + 3 ∧ e.d = 0) := b5
    have he0 : e.d = 0 := by
      rcases b5 with g1 | g1 | ⟨_, gd, _⟩ | ⟨_, gd⟩
      · omega
      · omega
      · exact gd
      · exact gd
    have hcell1 : w.cell? ⟨e.c, 1, none⟩ = some (.slice (some ⟨im.c, 0, none⟩) len cap') := by
      have := congrArg (fun l : List Value => l[1]?) q1
      simp only [List.getElem?_take, List.getElem?_drop, he0, hd0] at this
      simp only [World.cell?, b1, Option.isSome_none, Bool.false_eq_true, if_false]
      rw [← Array.getElem?_toList]
      simpa using this
    have hlenle : len ≤ cs2.size := by
      have hvl := d3.length
      unfold AH.ld at hl
      rw [hy] at hl
      have hl : takeN len (dropN 0 vs₂) = some cs := hl
      rw [dropN_eq, takeN_eq] at hl
      split at hl <;> simp at hl
      rename_i hle
      simp at hle hvl
      omega
    have hs0 : s ≠ [] := by intro h0; rw [h0] at hlen; simp at hlen; omega
    have hc := S.text e.c im.c cap' cs2.size s w hs0 (by rw [hlen]; exact hcell1) (by omega) (by simp [World.shape?, d1]) (by omega) (by omega) (fun j x hx => by
      have := y3 j _ (k2 j x hx)
      rw [addr_add]
      simpa [hd0] using this)
    rw [hlen] at hc
    rw [he0]
    refine hc.mono ?_
    rintro en w' ⟨rfl, rfl⟩
    obtain ⟨fz', f1⟩ := freeze_heap w im.c len d1
    obtain ⟨u1, u2⟩ := upd_sound (w' := w.drew.freeze ⟨im.c, 0, none⟩ len) hh n1 hy rfl hm (x' := .cells true vs₂) rfl (freeze_size w im.c len) (fun c hc => freeze_other w im.c len c hc)
      ⟨cs2, _, fz', f1, d2, d3, fun h => (by cases h), .inl rfl⟩ (by unfold World.freeze; split <;> exact ⟨rfl, rfl⟩)
    exact hRR _ _ _ rfl u1 u2
end
end Go.Ai
