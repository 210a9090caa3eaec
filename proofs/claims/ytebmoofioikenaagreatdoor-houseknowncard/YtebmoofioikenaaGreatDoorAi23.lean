/- Types whose values can be compared cell by cell. -/
import Derived.Test.YtebmoofioikenaaGreatDoorAi11
import Derived.DeepKeys3
namespace Go.Ai
open Go Go.MapKept

section
variable {P : Program}

noncomputable def flatFs (P : Program) (rec : TypeId → Option (List Nat)) : Nat → List Field → Option (List Nat)
  | _, [] => some []
  | off, f :: fs => if f.offset = off then (rec f.type).bind fun ks => if P.cellsOf f.type = ks.length then (flatFs P rec (off + ks.length) fs).bind fun r => some (ks ++ r) else none else none

noncomputable def flatK (P : Program) : Nat → TypeId → Option (List Nat)
  | 0, _ => none
  | d + 1, t => match P.underlying t with
    | some .bool => some [8]
    | some (.int q) => some [kNum q]
    | some .string => some [9]
    | some (.array n e) => (flatK P d e).bind fun ks => if P.cellsOf e = ks.length ∧ P.cellsOf t = n * ks.length then some ((List.replicate n ks).flatten) else none
    | some (.struct fs) => if fs.all (·.name != "_") = true then (flatFs P (flatK P d) 0 fs.toList).bind fun ks => if P.cellsOf t = ks.length then some ks else none else none
    | _ => none

theorem fit8 {v : Value} (h : fitC 8 v = true) : ∃ b, v = .bool b := by
  cases v <;> first | (cases h; done) | skip
  · rename_i b; exact ⟨b, rfl⟩
  · rename_i k n
    simp only [fitC, Bool.and_eq_true, decide_eq_true_eq] at h
    have h1 := h.1
    cases k <;> cases h1
theorem fitQ {q : IntKind} {v : Value} (h : fitC (kNum q) v = true) : ∃ n, v = .int q n ∧ (Lit.int q n).wf = true := by
  cases v <;> first | (cases h; done) | skip
  · simp only [fitC, decide_eq_true_eq] at h
    cases q <;> cases h
  · rename_i k n
    simp only [fitC, Bool.and_eq_true, decide_eq_true_eq] at h
    have hk : k = q := by
      have h1 := h.1
      cases k <;> cases q <;> first | rfl | cases h1
    subst hk; exact ⟨n, rfl, h.2⟩
  · simp only [fitC, Bool.and_eq_true, decide_eq_true_eq] at h
    have h1 := h.1
    cases q <;> cases h1
theorem fit9 {v : Value} (h : fitC 9 v = true) : ∃ s, v = .string s ∧ s.size ≤ maxLen := by
  cases v <;> first | (cases h; done) | skip
  · rename_i k n
    simp only [fitC, Bool.and_eq_true, decide_eq_true_eq] at h
    have h1 := h.1
    cases k <;> cases h1
  · rename_i s
    simp only [fitC, Bool.and_eq_true, decide_eq_true_eq] at h
    exact ⟨s, rfl, h.2⟩

theorem fitCs_length : ∀ {ks : List Nat} {vs : List Value}, fitCs ks vs = true → vs.length = ks.length
  | [], [], _ => rfl
  | _ :: _, _ :: _, h => by simp [fitCs] at h; simp [fitCs_length h.2]
  | [], _ :: _, h => by simp [fitCs] at h
  | _ :: _, [], h => by simp [fitCs] at h

theorem fitCs_append : ∀ {ks r : List Nat} {vs : List Value}, fitCs (ks ++ r) vs = true → fitCs ks (vs.take ks.length) = true ∧ fitCs r (vs.drop ks.length) = true
  | [], r, vs, h => by simpa [fitCs] using h
  | k :: ks, r, [], h => by simp [fitCs] at h
  | k :: ks, r, v :: vs, h => by
    simp [fitCs] at h
    obtain ⟨h1, h2⟩ := fitCs_append h.2
    simp [fitCs, h.1, h1, h2]

theorem flatFs_lits {rec : TypeId → Option (List Nat)} {d : Nat} (hrec : ∀ t ks vs, rec t = some ks → fitCs ks vs = true → ∃ l, P.keyLits d t vs = some l) (vs : List Value) : ∀ (fs : List Field) (off : Nat) (ks : List Nat), flatFs P rec off fs = some ks → fitCs ks (vs.drop off) = true →
    ∃ ls, fs.mapM (fun f => P.keyLits d f.type ((vs.drop f.offset).take (P.cellsOf f.type))) = some ls
  | [], _, _, _, _ => ⟨[], by simp⟩
  | f :: fs, off, ks, h, hf => by
    unfold flatFs at h
    split at h
    · rename_i ho
      obtain ⟨k1, h1, h⟩ := Option.bind_eq_some_iff.1 h
      split at h
      · rename_i hc
        obtain ⟨r, h2, h⟩ := Option.bind_eq_some_iff.1 h
        cases h
        obtain ⟨g1, g2⟩ := fitCs_append hf
        obtain ⟨l, hl⟩ := hrec _ _ _ h1 g1
        rw [List.drop_drop] at g2
        obtain ⟨ls, hls⟩ := flatFs_lits hrec vs fs _ r h2 g2
        exact ⟨l :: ls, by rw [List.mapM_cons, ho, hc, hl]; simp [hls]⟩
      · cases h
    · cases h

theorem mapM_ex {α β : Type} {f : α → Option β} : ∀ {l : List α}, (∀ x ∈ l, ∃ y, f x = some y) → ∃ ys, l.mapM f = some ys
  | [], _ => ⟨[], by simp⟩
  | x :: l, h => by
    obtain ⟨y, hy⟩ := h x (by simp)
    obtain ⟨ys, hys⟩ := mapM_ex (l := l) fun z hz => h z (by simp [hz])
    exact ⟨y :: ys, by rw [List.mapM_cons, hy]; simp [hys]⟩

theorem fitCs_rep {ks : List Nat} : ∀ {n : Nat} {vs : List Value}, fitCs ((List.replicate n ks).flatten) vs = true → ∀ i, i < n → fitCs ks ((vs.drop (i * ks.length)).take ks.length) = true
  | 0, vs, _, i, hi => by omega
  | n + 1, vs, h, i, hi => by
    rw [List.replicate_succ, List.flatten_cons] at h
    obtain ⟨h1, h2⟩ := fitCs_append h
    cases i with
    | zero => simpa using h1
    | succ i =>
      have := fitCs_rep h2 i (by omega)
      rw [List.drop_drop] at this
      rw [show (i + 1) * ks.length = ks.length + i * ks.length from by rw [Nat.succ_mul]; omega]
      exact this

theorem flatK_lits : ∀ (d : Nat) (t : TypeId) (ks : List Nat) (vs : List Value), flatK P d t = some ks → fitCs ks vs = true → ∃ l, P.keyLits d t vs = some l
  | 0, _, _, _, h, _ => by cases h
  | d + 1, t, ks, vs, h, hf => by
    unfold flatK at h
    have hlen := fitCs_length hf
    cases hu : P.underlying t with
    | none => rw [hu] at h; cases h
    | some kd =>
      rw [hu] at h
      cases kd <;> try (cases h; done)
      case bool =>
        cases h
        match vs, hf with
        | [v], hf =>
          obtain ⟨b, rfl⟩ := fit8 (by simpa [fitCs] using hf)
          exact ⟨[.bool b], by simp only [Program.keyLits, hu]⟩
      case int q =>
        cases h
        match vs, hf with
        | [v], hf =>
          obtain ⟨n, rfl, hw⟩ := fitQ (q := q) (by simpa [fitCs] using hf)
          exact ⟨[.int q n], by simp only [Program.keyLits, hu]; rw [if_pos ⟨trivial, hw⟩]⟩
      case string =>
        cases h
        match vs, hf with
        | [v], hf =>
          obtain ⟨b, rfl, hs⟩ := fit9 (by simpa [fitCs] using hf)
          exact ⟨[.string b.data.toList], by simp only [Program.keyLits, hu]; rw [if_pos hs]⟩
      case array n e =>
        obtain ⟨k1, h1, h⟩ := Option.bind_eq_some_iff.1 h
        split at h
        · rename_i hc
          cases h
          have hl : vs.length = P.cellsOf t := by rw [hlen, hc.2]; simp
          obtain ⟨ls, hls⟩ := mapM_ex (f := fun i => P.keyLits d e ((vs.drop (i * P.cellsOf e)).take (P.cellsOf e))) (l := List.range n) fun i hi => by
            rw [hc.1]
            exact flatK_lits d e k1 _ h1 (fitCs_rep hf i (by simpa using hi))
          exact ⟨ls.flatten, by simp only [Program.keyLits, hu]; rw [if_pos hl, hls]; rfl⟩
        · cases h
      case struct fs =>
        simp only at h
        split at h
        · rename_i hn
          obtain ⟨k1, h1, h⟩ := Option.bind_eq_some_iff.1 h
          split at h
          · rename_i hc
            cases h
            have hl : vs.length = P.cellsOf t := by rw [hlen, hc]
            obtain ⟨ls, hls⟩ := flatFs_lits (d := d) (fun t ks vs => flatK_lits d t ks vs) vs fs.toList 0 ks h1 (by simpa using hf)
            exact ⟨ls.flatten, by simp only [Program.keyLits, hu]; rw [if_pos ⟨hl, hn⟩, hls]; rfl⟩
          · cases h
        · cases h

theorem findAsking_spec {t : TypeId} {w : World} {k : Value} (_ : ∀ e : MapEntry, ∀ l : List MapEntry, e ∈ l → True) {agg : Bool} {ks : List Nat} (hE : ∀ x y, FitV agg ks x → FitV agg ks y → ∃ r : Bool, (Op.equal t x y).run P w = .ok r w ∧ (r = true ↔ x = y)) (hk : FitV agg ks k) :
    ∀ (es : List MapEntry) (i : Nat), (∀ e ∈ es, FitV agg ks e.key) → ((Instr.findAsking t k es i).run P w = .ok none w ∧ ∀ e ∈ es, e.key ≠ k) ∨ ∃ (j : Nat) (e : MapEntry), (Instr.findAsking t k es i).run P w = .ok (some (i + j, e.val)) w ∧ es[j]? = some e ∧ e.key = k ∧ ∀ (l : Nat) (m : MapEntry), l < j → es[l]? = some m → m.key ≠ k
  | [], i, _ => .inl ⟨by simp [Instr.findAsking], by simp⟩
  | e :: es, i, h => by
    obtain ⟨r, h1, h2⟩ := hE k e.key hk (h e (by simp))
    cases r with
    | true => exact .inr ⟨0, e, by simp [Instr.findAsking, h1], rfl, (h2.1 rfl).symm, fun l m hl => by omega⟩
    | false =>
      have hne : e.key ≠ k := fun q => by have := h2.2 q.symm; cases this
      rcases findAsking_spec (fun _ _ _ => trivial) hE hk es (i + 1) (fun m hm => h m (by simp [hm])) with ⟨g1, g2⟩ | ⟨j, m, g1, g2, g3, g4⟩
      · exact .inl ⟨by simp [Instr.findAsking, h1, g1], by simpa using ⟨hne, g2⟩⟩
      · refine .inr ⟨j + 1, m, by simp [Instr.findAsking, h1, g1]; omega, by simpa using g2, g3, fun l m' hl hm => ?_⟩
        cases l with
        | zero => simp at hm; subst hm; exact hne
        | succ l => exact g4 l m' (by omega) (by simpa using hm)

/-- A struct or an array of such cells. -/
theorem KT.agg {t : TypeId} {ks : List Nat} (d m : Nat) (hm : m ≤ 10000) (hf : flatK P d t = some ks) (hk : P.keyTypeAt m t = true) (ht : P.tiled m t = true) (hg : P.eqGuardType P.depth t = false)
    (hwide : (match P.underlying t with | some (.array _ _) | some (.struct _) => true | _ => false) = true) : KT P t true ks := by
  have hcell : P.cellsOf t = ks.length := by
    cases d with
    | zero => cases hf
    | succ d =>
      unfold flatK at hf
      cases hu : P.underlying t with
      | none => rw [hu] at hf; cases hf
      | some kd =>
        rw [hu] at hf hwide
        cases kd <;> simp at hwide
        · simp only at hf
          obtain ⟨k1, h1, h⟩ := Option.bind_eq_some_iff.1 hf
          split at h
          · rename_i hc; cases h; rw [hc.2]; simp
          · cases h
        · simp only at hf
          split at hf
          · obtain ⟨k1, h1, h⟩ := Option.bind_eq_some_iff.1 hf
            split at h
            · rename_i hc; cases h; exact hc
            · cases h
          · cases hf
  have facts : ∀ x, FitV true ks x → ∃ ys : Array Value, x = .agg ys ∧ x.formed P t = true ∧ ∃ l, P.keyLits d t x.cells.toList = some l := fun x hx => by
    obtain ⟨ys, rfl, hy⟩ := (show ∃ ys : Array Value, x = .agg ys ∧ fitCs ks ys.toList = true from hx)
    refine ⟨ys, rfl, ?_, flatK_lits d t ks _ hf hy⟩
    have hl := fitCs_length hy
    have hl : ys.size = P.cellsOf t := by rw [hcell]; simpa using hl
    cases hu : P.underlying t with
    | none => rw [hu] at hwide; cases hwide
    | some kd => rw [hu] at hwide; cases kd <;> simp at hwide <;> simp [Value.formed, hu, hl]
  have heq : ∀ w x y, FitV true ks x → FitV true ks y → ∃ r : Bool, (Op.equal t x y).run P w = .ok r w ∧ (r = true ↔ x = y) := fun w x y hx hy => by
    obtain ⟨xs, ex, fx, lx, kx⟩ := facts x hx
    obtain ⟨ys, ey, fy, ly, ky⟩ := facts y hy
    obtain ⟨r, h1, h2⟩ := run_equalIn_deep (10000 - m) m t hk w d d x y lx ly fx fy kx ky
    refine ⟨r, ?_, ?_⟩
    · rw [show 10000 - m + m = 10000 by omega] at h1; exact h1
    · rw [h2]
      constructor
      · intro e
        have a1 := cells_of_lits m t ht d _ lx kx
        have a2 := cells_of_lits m t ht d _ ly ky
        rw [e, ← a2] at a1
        subst ex ey
        have a1 : xs.toList = ys.toList := a1
        rw [Array.toList_inj.1 a1]
      · intro e; subst e; rw [kx] at ky; cases ky; rfl
  refine ⟨heq, fun w em x hx => ?_, fun w k es hk' hes => ?_, fun _ => hg⟩
  · obtain ⟨xs, ex, fx, lx, kx⟩ := facts x hx
    have := run_checkKey_deep em (10000 - m) m t hk w d x lx fx kx
    rw [show 10000 - m + m = 10000 by omega] at this; exact this
  · rw [run_findKey_eq w hwide]
    rcases findAsking_spec (P := P) (w := w) (t := t) (fun _ _ _ => trivial) (heq w) hk' es 0 hes with h | ⟨j, e, h1, h2, h3, h4⟩
    · exact .inl h
    · exact .inr ⟨j, e, by simpa using h1, h2, h3, h4⟩

/-- An integer, a bool or a string. -/
theorem KT.basic {t : TypeId} {k : Nat} {d : TypeDesc} (hu : P.underlying t = some d) (hk : (match d with | .int q => kNum q = k | .bool => k = 8 | .string => k = 9 | _ => False)) : KT P t false [k] := by
  have isKey : ∀ x, FitV false [k] x → IsKey d x := fun x hx => by
    have hx : fitC k x = true := hx
    cases d <;> first | (cases hk; done) | skip
    · have hk : k = 8 := hk
      subst hk; obtain ⟨b, rfl⟩ := fit8 hx; trivial
    · rename_i q
      have hk : kNum q = k := hk
      subst hk; obtain ⟨n, rfl, _⟩ := fitQ hx; rfl
    · have hk : k = 9 := hk
      subst hk; obtain ⟨s, rfl, _⟩ := fit9 hx; trivial
  have heq : ∀ w x y, FitV false [k] x → FitV false [k] y → ∃ r : Bool, (Op.equal t x y).run P w = .ok r w ∧ (r = true ↔ x = y) := fun w x y hx hy => by
    have hx : fitC k x = true := hx
    have hy : fitC k y = true := hy
    cases d <;> first | (cases hk; done) | skip
    · have hk : k = 8 := hk
      subst hk; obtain ⟨b, rfl⟩ := fit8 hx; obtain ⟨c, rfl⟩ := fit8 hy
      exact ⟨_, run_equalIn_bool w 9999 t b c hu, by simp⟩
    · rename_i q
      have hk : kNum q = k := hk
      subst hk; obtain ⟨n, rfl, _⟩ := fitQ hx; obtain ⟨m, rfl, _⟩ := fitQ hy
      exact ⟨_, run_equalIn_int w 9999 t q q n m hu, by simp⟩
    · have hk : k = 9 := hk
      subst hk; obtain ⟨s, rfl, _⟩ := fit9 hx; obtain ⟨u, rfl, _⟩ := fit9 hy
      refine ⟨_, run_equalIn_string w 9999 t s u hu, ?_⟩
      rw [← beq_toListBytes, bytes_beq]; simp
  refine ⟨heq, fun w em x hx => run_checkKey hu (isKey x hx) em 9999, fun w x es hx hes => ?_, fun h => by cases h⟩
  -- the first entry
  have first : ∀ (l : List MapEntry) (i : Nat), (∀ e ∈ l, IsKey d e.key) → (Instr.findNow d x l i = some none ∧ ∀ e ∈ l, e.key ≠ x) ∨ ∃ (j : Nat) (e : MapEntry), Instr.findNow d x l i = some (some (i + j, e.val)) ∧ l[j]? = some e ∧ e.key = x ∧ ∀ (n : Nat) (m : MapEntry), n < j → l[n]? = some m → m.key ≠ x := by
    intro l
    induction l with
    | nil => intro i _; exact .inl ⟨rfl, by simp⟩
    | cons e l ih =>
      intro i hl
      obtain ⟨r, hr, hiff⟩ := sameNow_of_keys (isKey x hx) (hl e (by simp))
      cases r with
      | true => exact .inr ⟨0, e, by simp [Instr.findNow, hr], rfl, (hiff.1 rfl).symm, fun n m hn => by omega⟩
      | false =>
        have hne : e.key ≠ x := fun q => by have := hiff.2 q.symm; cases this
        rcases ih (i + 1) (fun m hm => hl m (by simp [hm])) with ⟨g1, g2⟩ | ⟨j, m, g1, g2, g3, g4⟩
        · exact .inl ⟨by simp [Instr.findNow, hr, g1], by simpa using ⟨hne, g2⟩⟩
        · refine .inr ⟨j + 1, m, by simp [Instr.findNow, hr, g1]; omega, by simpa using g2, g3, fun n m' hn hm => ?_⟩
          cases n with
          | zero => simp at hm; subst hm; exact hne
          | succ n => exact g4 n m' (by omega) (by simpa using hm)
  rcases first es 0 (fun e he => isKey _ (hes e he)) with ⟨h1, h2⟩ | ⟨j, e, h1, h2, h3, h4⟩
  · exact .inl ⟨run_findKey hu h1, h2⟩
  · exact .inr ⟨j, e, by have := run_findKey (P := P) (w := w) hu h1; simpa using this, h2, h3, h4⟩
end
end Go.Ai
