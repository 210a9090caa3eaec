/- An abstract machine for a part of the model's language: values, a heap of blocks, a resolved code, and its evaluator. -/
import GoSem.Core.Code
import GoSem.Core.View
namespace Go.Ai
noncomputable section


/-! ### Choices, by the types' own recursors -/
def ifb {β : Type} (c : Bool) (x y : β) : β := Bool.rec (motive := fun _ => β) y x c
def _root_.Option.obind {α β : Type} (x : Option α) (f : α → Option β) : Option β := Option.rec (motive := fun _ => Option β) none f x
def oget {α : Type} (d : α) (x : Option α) : α := Option.rec (motive := fun _ => α) d (fun a => a) x

/-! ### A trie keyed by numbers -/
inductive Tr (α : Type) where
  | nil
  | node (v : Option α) (l r : Tr α)

def Tr.get {α : Type} (t : Tr α) : Nat → Option α :=
  Tr.rec (motive := fun _ => Nat → Option α) (fun _ => none)
    (fun v _ _ ihl ihr k => ifb (Nat.beq k 0) v (ifb (Nat.beq (Nat.mod k 2) 1) (ihl (Nat.div k 2)) (ihr (Nat.sub (Nat.div k 2) 1)))) t

/-- Forces a trie to its head. -/
def Tr.force {α β : Type} (t : Tr α) (f : Tr α → β) : β := Tr.rec (motive := fun _ => β) (f .nil) (fun v l r _ _ => f (.node v l r)) t

def Tr.set0 {α : Type} (ih : Tr α → Nat → Option α → Tr α) (k : Nat) (a : Option α) : Tr α :=
  ifb (Nat.beq k 0) (.node a .nil .nil)
    (ifb (Nat.beq (Nat.mod k 2) 1) ((ih .nil (Nat.div k 2) a).force fun l => .node none l .nil)
      ((ih .nil (Nat.sub (Nat.div k 2) 1) a).force fun r => .node none .nil r))

def Tr.set1 {α : Type} (ih : Tr α → Nat → Option α → Tr α) (k : Nat) (a : Option α) (v : Option α) (l r : Tr α) : Tr α :=
  ifb (Nat.beq k 0) (.node a l r)
    (ifb (Nat.beq (Nat.mod k 2) 1) ((ih l (Nat.div k 2) a).force fun l => .node v l r)
      ((ih r (Nat.sub (Nat.div k 2) 1) a).force fun r => .node v l r))

def Tr.set {α : Type} (d : Nat) : Tr α → Nat → Option α → Tr α :=
  Nat.rec (motive := fun _ => Tr α → Nat → Option α → Tr α) (fun t _ _ => t) (fun _ ih t k a =>
    Tr.rec (motive := fun _ => Tr α) (Tr.set0 ih k a) (fun v l r _ _ => Tr.set1 ih k a v l r) t) d

def Tr.put {α : Type} (t : Tr α) (k : Nat) (a : α) : Tr α := t.set (Nat.succ k) k (some a)
def Tr.del {α : Type} (t : Tr α) (k : Nat) : Tr α := t.set (Nat.succ k) k none

/-! ### Frames: tries keyed by paths -/
inductive Pth where
  | e
  | o (p : Pth)
  | i (p : Pth)
  deriving Inhabited, DecidableEq

inductive Fr (α : Type) where
  | nil
  | node (v : Option α) (l r : Fr α)

def Fr.getE {α : Type} (t : Fr α) : Option α := Fr.rec (motive := fun _ => Option α) none (fun v _ _ _ _ => v) t
def Fr.getO {α : Type} (ih : Fr α → Option α) (t : Fr α) : Option α := Fr.rec (motive := fun _ => Option α) none (fun _ l _ _ _ => ih l) t
def Fr.getI {α : Type} (ih : Fr α → Option α) (t : Fr α) : Option α := Fr.rec (motive := fun _ => Option α) none (fun _ _ r _ _ => ih r) t
def Fr.get {α : Type} (t : Fr α) (p : Pth) : Option α :=
  Pth.rec (motive := fun _ => Fr α → Option α) Fr.getE (fun _ ih => Fr.getO ih) (fun _ ih => Fr.getI ih) p t

def Fr.force {α β : Type} (t : Fr α) (f : Fr α → β) : β := Fr.rec (motive := fun _ => β) (f .nil) (fun v l r _ _ => f (.node v l r)) t

def Fr.put {α : Type} (t : Fr α) (p : Pth) (a : α) : Fr α :=
  Pth.rec (motive := fun _ => Fr α → Fr α)
    (fun t => Fr.rec (motive := fun _ => Fr α) (.node (some a) .nil .nil) (fun _ l r _ _ => .node (some a) l r) t)
    (fun _ ih t => Fr.rec (motive := fun _ => Fr α) ((ih .nil).force fun l => .node none l .nil) (fun v l r _ _ => (ih l).force fun l => .node v l r) t)
    (fun _ ih t => Fr.rec (motive := fun _ => Fr α) ((ih .nil).force fun r => .node none .nil r) (fun v l r _ _ => (ih r).force fun r => .node v l r) t) p t

def Pth.succ (p : Pth) : Pth := Pth.rec (motive := fun _ => Pth) (.o .e) (fun p _ => .i p) (fun _ ih => .o ih) p

def pthOf (n : Nat) : Pth := Nat.rec (motive := fun _ => Pth) .e (fun _ ih => ih.succ) n

/-! ### Values -/
inductive AV where
  | undef
  | bool (b : Bool)
  | int (k : IntKind) (n : Int)
  | str (s : List UInt8)
  | ptr (a : Option (Nat × Nat))
  | sl (a : Option (Nat × Nat)) (len cap : Nat) (exact : Bool) (esz : Nat)
  | map (r : Option Nat)
  | fn (f : Nat) (first cap : List AV)
  | yld (l : Nat)
  | nilFn
  | iface (t : Nat) (v : AV)
  | nilIface
  | agg (cs : List AV)
  | tup (vs : List AV)
  deriving Inhabited

def _root_.Option.ogetU (x : Option AV) : AV := oget .undef x

def AV.cells : AV → List AV
  | .agg cs => cs
  | v => [v]

/-! ### Code -/
inductive Opd where
  | t (p : Pth)
  | c (v : AV)
  | f (n : Nat)
  | g (n : Nat)
  deriving Inhabited

inductive IOp where
  | move (x : Opd)
  | pick (c a b : Opd)
  | alloc (zero : List AV) (ty : Nat)
  | box (x : Opd)
  | build (zero : List AV) (parts : List (Nat × Nat × Opd))
  | buildSlice (zero : List AV) (esz len : Nat) (parts : List (Nat × Nat × Opd))
  | load (x : Opd)
  | loadAgg (n : Nat) (x : Opd)
  | store (n : Nat) (a v : Opd)
  | nilCheck (x : Opd)
  | bin (op : BinOp) (x y : Opd)
  | eqB (neg : Bool) (x y : Opd)
  | eqAgg (neg : Bool) (ks : List Nat) (x y : Opd)
  | eqNil (k : Nat) (neg : Bool) (x y : Opd)
  | un (op : UnOp) (x : Opd)
  | convInt (k : IntKind) (x : Opd)
  | convStr (x : Opd)
  | bytesToStr (x : Opd)
  | strToBytes (x : Opd)
  | mkIface (t : Nat) (x : Opd)
  | mkFn (f : Nat) (first cap : List Opd)
  | mkMap
  | mkSlice (zero : List AV) (esz bytes : Nat) (len cap : Opd)
  | sliceStr (x : Opd) (lo hi : Option Opd)
  | sliceSl (esz : Nat) (x : Opd) (lo hi mx : Option Opd)
  | sliceArr (n esz : Nat) (x : Opd) (lo hi : Option Opd)
  | fieldAddr (off : Nat) (x : Opd)
  | field (off : Nat) (agg : Option Nat) (x : Opd)
  | idxAddrArr (n esz : Nat) (x i : Opd)
  | idxAddrSl (esz : Nat) (x i : Opd)
  | idxArr (n esz : Nat) (agg : Bool) (x i : Opd)
  | idxStr (x i : Opd)
  | lookup (agg : Bool) (ks : List Nat) (zero : AV) (ok : Bool) (m k : Opd)
  | mapUpdate (agg : Bool) (ks : List Nat) (m k v : Opd)
  | extract (x : Opd) (i : Nat)
  | call (f : Opd) (args : List Opd)
  | len (k : Nat) (x : Opd)
  | lenArr (n : Nat)
  | append (esz bytes ety : Nat) (s x : Opd)
  | copy (esz : Nat) (d s : Opd)
  | clearSl (zero : List AV) (x : Opd)
  | minmax (mx : Bool) (xs : List Opd)
  | stuck
  | loadG (agg : Option Nat) (g : Nat)
  | idxAddrG (g n esz : Nat) (i : Opd)
  | rangeStr (x : Opd)
  | nextStr (x : Opd)
  deriving Inhabited

structure IOper where
  dst : Option Pth
  op : IOp
  guard : Option (Pth × Bool) := none
  flag : Nat := 0
  after : List Nat := []
  xs : List Opd := []
  hide : List Nat := []
  deriving Inhabited

inductive ICode where
  | skip
  | region (ops : List IOper)
  | draw (ops : List IOper) (two : Nat)
  | seq (a b : ICode)
  | cond (c : Opd) (a b : ICode)
  | block (id : Nat) (c : ICode)
  | loop (c : ICode)
  | rangeFunc (f : Opd) (ps : List Pth) (asg body : ICode)
  | exit (id : Nat)
  | ret
  | stuck
  | scope (c : ICode)
  deriving Inhabited

inductive IRes where
  | tmp (t : Pth)
  | cell (a : Pth) (agg : Option Nat)
  deriving Inhabited

structure IFunc where
  body : ICode
  results : List IRes
  deriving Inhabited

/-! ### The heap -/
inductive Ex where
  | normal
  | exit (id : Nat)
  | ret
  deriving Inhabited

inductive ABlk where
  | cells (ro : Bool) (vs : List AV) (ty : Nat := 0)
  | map (es : List (AV × AV))
  | loop (st : Nat) (pend : Option Ex) (τ : Fr AV) (ps : List Pth) (asg body : ICode)
  | iter (s : List UInt8) (pos : Nat)
  deriving Inhabited

structure AH where
  next : Nat
  blk : Tr ABlk
  lim : Nat
  exc : List Nat
  hidAt : Nat
  hid : List Nat

def memN (n : Nat) (l : List Nat) : Bool := List.rec (motive := fun _ => Bool) false (fun a _ ih => ifb (Nat.beq a n) true ih) l

def AH.view (H : AH) (b : Nat) : Option ABlk :=
  ifb (Nat.ble (Nat.succ b) H.hidAt) none (ifb (memN b H.hid) none (H.blk.get b))

def AH.may (H : AH) (b : Nat) : Bool := ifb (Nat.ble H.lim b) true (memN b H.exc)

def AH.alloc (H : AH) (x : ABlk) : AH := AH.rec (motive := fun _ => AH) (fun next blk lim exc hidAt hid => (blk.put next x).force fun blk => ⟨Nat.add next 1, blk, lim, exc, hidAt, hid⟩) H

def AH.setB (H : AH) (b : Nat) (x : ABlk) : AH := AH.rec (motive := fun _ => AH) (fun next blk lim exc hidAt hid => (blk.put b x).force fun blk => ⟨next, blk, lim, exc, hidAt, hid⟩) H

def AH.delB (H : AH) (b : Nat) : AH := AH.rec (motive := fun _ => AH) (fun next blk lim exc hidAt hid => (blk.del b).force fun blk => ⟨next, blk, lim, exc, hidAt, hid⟩) H

def takeN {α : Type} (n : Nat) : List α → Option (List α) :=
  Nat.rec (motive := fun _ => List α → Option (List α)) (fun _ => some [])
    (fun _ ih l => List.rec (motive := fun _ => Option (List α)) none (fun a l _ => (ih l).obind fun r => some (a :: r)) l) n

def dropN {α : Type} (n : Nat) : List α → List α :=
  Nat.rec (motive := fun _ => List α → List α) (fun l => l)
    (fun _ ih l => List.rec (motive := fun _ => List α) [] (fun _ l _ => ih l) l) n

def nth {α : Type} (l : List α) (n : Nat) : Option α :=
  List.rec (motive := fun _ => Option α) none (fun a _ _ => some a) (dropN n l)

/-- A list with some elements put over its first ones; none if they go beyond its end. -/
def over0 {α : Type} (vs : List α) : List α → Option (List α) :=
  List.rec (motive := fun _ => List α → Option (List α)) (fun l => some l)
    (fun v _ ih l => List.rec (motive := fun _ => Option (List α)) none (fun _ l _ => (ih l).obind fun r => some (v :: r)) l) vs

/-- The same from a place on. -/
def over {α : Type} (l : List α) (n : Nat) (vs : List α) : Option (List α) :=
  Nat.rec (motive := fun _ => List α → Option (List α)) (fun l => over0 vs l)
    (fun _ ih l => List.rec (motive := fun _ => Option (List α)) none (fun a l _ => (ih l).obind fun r => some (a :: r)) l) n l

/-! ### What a value is, for whoever goes on with it -/
section
variable {β : Type}
def AV.el (kU : β) (kB : Bool → β) (kI : IntKind → Int → β) (kS : List UInt8 → β) (kP : Option (Nat × Nat) → β) (kL : Option (Nat × Nat) → Nat → Nat → Bool → Nat → β) (kM : Option Nat → β)
    (kF : Nat → List AV → List AV → β) (kY : Nat → β) (kN : β) (kT : Nat → AV → β) (kZ : β) (kA kV : List AV → β) (v : AV) : β :=
  AV.rec (motive_1 := fun _ => β) (motive_2 := fun _ => Unit) kU kB kI kS kP kL kM (fun f a b _ _ => kF f a b) kY kN (fun t v _ => kT t v) kZ (fun cs _ => kA cs) (fun vs _ => kV vs) () (fun _ _ _ _ => ()) v
def pairK (k : Nat → Nat → Option β) (a : Option (Nat × Nat)) : Option β := Option.rec (motive := fun _ => Option β) none (fun p => k p.1 p.2) a
def AV.ptrK (v : AV) (k : Nat → Nat → Option β) : Option β :=
  AV.rec (motive_1 := fun _ => Option β) (motive_2 := fun _ => Unit) none (fun _ => none) (fun _ _ => none) (fun _ => none) (pairK k) (fun _ _ _ _ _ => none) (fun _ => none) (fun _ _ _ _ _ => none) (fun _ => none) none (fun _ _ _ => none) none (fun _ _ => none) (fun _ _ => none) () (fun _ _ _ _ => ()) v
def AV.intK (v : AV) (k : IntKind → Int → Option β) : Option β :=
  AV.rec (motive_1 := fun _ => Option β) (motive_2 := fun _ => Unit) none (fun _ => none) k (fun _ => none) (fun _ => none) (fun _ _ _ _ _ => none) (fun _ => none) (fun _ _ _ _ _ => none) (fun _ => none) none (fun _ _ _ => none) none (fun _ _ => none) (fun _ _ => none) () (fun _ _ _ _ => ()) v
def AV.boolK (v : AV) (k : Bool → Option β) : Option β :=
  AV.rec (motive_1 := fun _ => Option β) (motive_2 := fun _ => Unit) none k (fun _ _ => none) (fun _ => none) (fun _ => none) (fun _ _ _ _ _ => none) (fun _ => none) (fun _ _ _ _ _ => none) (fun _ => none) none (fun _ _ _ => none) none (fun _ _ => none) (fun _ _ => none) () (fun _ _ _ _ => ()) v
def AV.strK (v : AV) (k : List UInt8 → Option β) : Option β :=
  AV.rec (motive_1 := fun _ => Option β) (motive_2 := fun _ => Unit) none (fun _ => none) (fun _ _ => none) k (fun _ => none) (fun _ _ _ _ _ => none) (fun _ => none) (fun _ _ _ _ _ => none) (fun _ => none) none (fun _ _ _ => none) none (fun _ _ => none) (fun _ _ => none) () (fun _ _ _ _ => ()) v
def AV.aggK (v : AV) (k : List AV → Option β) : Option β :=
  AV.rec (motive_1 := fun _ => Option β) (motive_2 := fun _ => Unit) none (fun _ => none) (fun _ _ => none) (fun _ => none) (fun _ => none) (fun _ _ _ _ _ => none) (fun _ => none) (fun _ _ _ _ _ => none) (fun _ => none) none (fun _ _ _ => none) none (fun cs _ => k cs) (fun _ _ => none) () (fun _ _ _ _ => ()) v
def AV.tupK (v : AV) (k : List AV → Option β) : Option β :=
  AV.rec (motive_1 := fun _ => Option β) (motive_2 := fun _ => Unit) none (fun _ => none) (fun _ _ => none) (fun _ => none) (fun _ => none) (fun _ _ _ _ _ => none) (fun _ => none) (fun _ _ _ _ _ => none) (fun _ => none) none (fun _ _ _ => none) none (fun _ _ => none) (fun cs _ => k cs) () (fun _ _ _ _ => ()) v
def AV.mapK (v : AV) (k : Option Nat → Option β) : Option β :=
  AV.rec (motive_1 := fun _ => Option β) (motive_2 := fun _ => Unit) none (fun _ => none) (fun _ _ => none) (fun _ => none) (fun _ => none) (fun _ _ _ _ _ => none) k (fun _ _ _ _ _ => none) (fun _ => none) none (fun _ _ _ => none) none (fun _ _ => none) (fun _ _ => none) () (fun _ _ _ _ => ()) v
def AV.slK (v : AV) (k : Option (Nat × Nat) → Nat → Nat → Bool → Nat → Option β) : Option β :=
  AV.rec (motive_1 := fun _ => Option β) (motive_2 := fun _ => Unit) none (fun _ => none) (fun _ _ => none) (fun _ => none) (fun _ => none) k (fun _ => none) (fun _ _ _ _ _ => none) (fun _ => none) none (fun _ _ _ => none) none (fun _ _ => none) (fun _ _ => none) () (fun _ _ _ _ => ()) v
def ABlk.cellsK (x : ABlk) (k : Bool → List AV → Option β) : Option β := ABlk.rec (motive := fun _ => Option β) (fun ro vs _ => k ro vs) (fun _ => none) (fun _ _ _ _ _ _ => none) (fun _ _ => none) x
def ABlk.mapK (x : ABlk) (k : List (AV × AV) → Option β) : Option β := ABlk.rec (motive := fun _ => Option β) (fun _ _ _ => none) k (fun _ _ _ _ _ _ => none) (fun _ _ => none) x
def ABlk.loopK (x : ABlk) (k : Nat → Option Ex → Fr AV → List Pth → ICode → ICode → Option β) : Option β := ABlk.rec (motive := fun _ => Option β) (fun _ _ _ => none) (fun _ => none) k (fun _ _ => none) x
def ABlk.iterK (x : ABlk) (k : List UInt8 → Nat → Option β) : Option β := ABlk.rec (motive := fun _ => Option β) (fun _ _ _ => none) (fun _ => none) (fun _ _ _ _ _ _ => none) k x
end
/-- What is known of a block's type t: 0 nothing · 1 a package variable (read alone) · 3t+2 its type, and that it is told whole · 3t+3 its type, and that it is told from its first cell on. -/
def ABlk.ty (x : ABlk) : Nat := ABlk.rec (motive := fun _ => Nat) (fun _ _ t => t) (fun _ => 0) (fun _ _ _ _ _ _ => 0) (fun _ _ => 0) x
def ABlk.glb (x : ABlk) : Bool := ABlk.rec (motive := fun _ => Bool) (fun ro _ t => ifb ro (Nat.beq t 1) false) (fun _ => false) (fun _ _ _ _ _ _ => false) (fun _ _ => false) x
def AH.tyOf (H : AH) (b : Nat) : Nat := Option.rec (motive := fun _ => Nat) 0 (fun x => x.ty) (H.view b)

def AH.ld (H : AH) (b o n : Nat) : Option (List AV) := (H.view b).obind fun x => x.cellsK fun _ vs => takeN n (dropN o vs)

def AH.ld1 (H : AH) (b o : Nat) : Option AV := (H.view b).obind fun x => x.cellsK fun _ vs => nth vs o

def AV.isDef (v : AV) : Bool :=
  v.el false (fun _ => true) (fun _ _ => true) (fun _ => true) (fun _ => true) (fun _ _ _ _ _ => true) (fun _ => true) (fun _ _ _ => true) (fun _ => true) true (fun _ _ => true) true (fun _ => true) (fun _ => true)
/-- What may stand in one cell. -/
def AV.one (v : AV) : Bool :=
  v.el false (fun _ => true) (fun _ _ => true) (fun _ => true) (fun _ => true) (fun _ _ _ _ _ => true) (fun _ => true) (fun _ _ _ => true) (fun _ => true) true (fun _ _ => true) true (fun _ => false) (fun _ => false)
def allOne (l : List AV) : Bool := List.rec (motive := fun _ => Bool) true (fun v _ ih => ifb v.one ih false) l

def AH.st (H : AH) (b o : Nat) (ws : List AV) : Option AH :=
  (H.view b).obind fun x => x.cellsK fun ro vs => ifb ro none (ifb (H.may b) (ifb (allOne ws) ((over vs o ws).obind fun vs' => some (H.setB b (.cells false vs' x.ty))) none) none)

def AH.kill (H : AH) (b : Nat) : Option AH :=
  (H.view b).obind fun x => x.cellsK fun ro _ => ifb ro none (ifb (H.may b) (some (H.delB b)) none)


/-! ### Operations -/
def Opd.ev (τ : Fr AV) (x : Opd) : AV :=
  Opd.rec (motive := fun _ => AV) (fun n => (τ.get n).ogetU) (fun v => v) (fun n => .fn n [] []) (fun n => .ptr (some (n, 0))) x

def ileb (a b : Int) : Bool :=
  Int.rec (motive := fun _ => Bool) (fun m => Int.rec (motive := fun _ => Bool) (fun n => Nat.ble m n) (fun _ => false) b) (fun m => Int.rec (motive := fun _ => Bool) (fun _ => true) (fun n => Nat.ble n m) b) a

def ieqb (a b : Int) : Bool :=
  Int.rec (motive := fun _ => Bool) (fun m => Int.rec (motive := fun _ => Bool) (fun n => Nat.beq m n) (fun _ => false) b) (fun m => Int.rec (motive := fun _ => Bool) (fun _ => false) (fun n => Nat.beq m n) b) a

def iltb (a b : Int) : Bool := not (ileb b a)

def wrap64q (a : Int) : Int :=
  Int.rec (motive := fun _ => Int) (fun m => ifb (Nat.ble m 9223372036854775807) (.ofNat m) (IntKind.wrap .i64 (.ofNat m)))
    (fun m => ifb (Nat.ble m 9223372036854775807) (.negSucc m) (IntKind.wrap .i64 (.negSucc m))) a

def wrapU64q (a : Int) : Int :=
  Int.rec (motive := fun _ => Int) (fun m => .ofNat (Nat.mod m 18446744073709551616)) (fun m => IntKind.wrap .u64 (.negSucc m)) a

/-- A number taken into its kind; quick for those that lie in it. -/
def wrapK (k : IntKind) : Int → Int :=
  IntKind.rec (motive := fun _ => Int → Int) (IntKind.wrap .i8) (IntKind.wrap .i16) (IntKind.wrap .i32) wrap64q (IntKind.wrap .u8) (IntKind.wrap .u16) (IntKind.wrap .u32) wrapU64q k

def bitsK (op : BinOp) (k : IntKind) (x y : Int) : Option Int :=
  match op with
  | .and => some (k.wrap (BitVec.ofInt k.bits x &&& BitVec.ofInt k.bits y).toNat)
  | .or => some (k.wrap (BitVec.ofInt k.bits x ||| BitVec.ofInt k.bits y).toNat)
  | .xor => some (k.wrap (BitVec.ofInt k.bits x ^^^ BitVec.ofInt k.bits y).toNat)
  | .andNot => some (k.wrap (BitVec.ofInt k.bits x &&& ~~~(BitVec.ofInt k.bits y)).toNat)
  | _ => none

def kNum (k : IntKind) : Nat := IntKind.rec (motive := fun _ => Nat) 0 1 2 3 4 5 6 7 k
def beqK (a b : IntKind) : Bool := Nat.beq (kNum a) (kNum b)

def iAdd (k : IntKind) (a b : Int) : Option AV := some (.int k (wrapK k (a + b)))
def iSub (k : IntKind) (a b : Int) : Option AV := some (.int k (wrapK k (a - b)))
def iMul (k : IntKind) (a b : Int) : Option AV := some (.int k (wrapK k (a * b)))
def iQuo (k : IntKind) (a b : Int) : Option AV := ifb (ieqb b 0) none (some (.int k (wrapK k (a.tdiv b))))
def iRem (k : IntKind) (a b : Int) : Option AV := ifb (ieqb b 0) none (some (.int k (a.tmod b)))
def iEql (_ : IntKind) (a b : Int) : Option AV := some (.bool (ieqb a b))
def iNeq (_ : IntKind) (a b : Int) : Option AV := some (.bool (not (ieqb a b)))
def iLss (_ : IntKind) (a b : Int) : Option AV := some (.bool (iltb a b))
def iLeq (_ : IntKind) (a b : Int) : Option AV := some (.bool (ileb a b))
def iGtr (_ : IntKind) (a b : Int) : Option AV := some (.bool (iltb b a))
def iGeq (_ : IntKind) (a b : Int) : Option AV := some (.bool (ileb b a))
def iBits (op : BinOp) (k : IntKind) (a b : Int) : Option AV := (bitsK op k a b).obind fun n => some (.int k n)
def iShl (k : IntKind) (a b : Int) : Option AV := ifb (ileb 0 b) (some (.int k (wrapK k (a * (2 ^ (min b.toNat k.bits)))))) none
def iShr (k : IntKind) (a b : Int) : Option AV := ifb (ileb 0 b) (some (.int k (a.fdiv (2 ^ (min b.toNat k.bits))))) none
def same (f : IntKind → Int → Int → Option AV) (k : IntKind) (a : Int) (k' : IntKind) (b : Int) : Option AV := ifb (beqK k k') (f k a b) none

def shift (f : IntKind → Int → Int → Option AV) (k : IntKind) (a : Int) (_ : IntKind) (b : Int) : Option AV := f k a b

def binI (op : BinOp) : IntKind → Int → IntKind → Int → Option AV :=
  BinOp.rec (motive := fun _ => IntKind → Int → IntKind → Int → Option AV) (same iAdd) (same iSub) (same iMul) (same iQuo) (same iRem) (same (iBits .and)) (same (iBits .or)) (same (iBits .xor))
    (shift iShl) (shift iShr) (same (iBits .andNot)) (same iEql) (same iNeq) (same iLss) (same iLeq) (same iGtr) (same iGeq) op

/-- Two lists of bytes. -/
def eqB : List UInt8 → List UInt8 → Bool
  | [], [] => true
  | a :: x, b :: y => ifb (Nat.beq a.toNat b.toNat) (eqB x y) false
  | [], _ :: _ => false
  | _ :: _, [] => false

def binS (op : BinOp) (a b : List UInt8) : Option AV :=
  match op with
  | .add => ifb (Nat.ble (a.length + b.length) 1000000000000) (some (.str (a ++ b))) none
  | .eql => some (.bool (eqB a b))
  | .neq => some (.bool (not (eqB a b)))
  | _ => none

def bin (op : BinOp) (x y : AV) : Option AV :=
  x.el none (fun _ => none) (fun k a => y.intK fun k' b => binI op k a k' b) (fun a => y.strK fun b => binS op a b)
    (fun _ => none) (fun _ _ _ _ _ => none) (fun _ => none) (fun _ _ _ => none) (fun _ => none) none (fun _ _ => none) none (fun _ => none) (fun _ => none)

def un (op : UnOp) (x : AV) : Option AV :=
  match op with
  | .neg => x.intK fun k n => some (.int k (wrapK k (0 - n)))
  | .not => x.boolK fun b => some (.bool (not b))
  | _ => none

def loK (k : IntKind) : Int := IntKind.rec (motive := fun _ => Int) (-128) (-32768) (-2147483648) (-9223372036854775808) 0 0 0 0 k
def hiK (k : IntKind) : Int := IntKind.rec (motive := fun _ => Int) 127 32767 2147483647 9223372036854775807 255 65535 4294967295 18446744073709551615 k
def inK (k : IntKind) (n : Int) : Bool := ifb (ileb (loK k) n) (ileb n (hiK k)) false

/-- Two cells of a kind (0 to 7 integers, 8 bool, 9 string), held against each other. -/
def cellEq (k : Nat) (x y : AV) : Option Bool :=
  ifb (Nat.beq k 8) (x.boolK fun a => y.boolK fun b => some (not (xor a b)))
    (ifb (Nat.beq k 9) (x.strK fun a => y.strK fun b => ifb (Nat.ble a.length 1000000000000) (ifb (Nat.ble b.length 1000000000000) (some (eqB a b)) none) none)
      (x.intK fun k1 a => y.intK fun k2 b => ifb (Nat.beq (kNum k1) k) (ifb (Nat.beq (kNum k2) k) (ifb (inK k1 a) (ifb (inK k2 b) (some (ieqb a b)) none) none) none) none))

def eqK : List Nat → List AV → List AV → Option Bool
  | [], [], [] => some true
  | k :: ks, x :: xs, y :: ys => (cellEq k x y).obind fun t => (eqK ks xs ys).obind fun r => some (and t r)
  | _, _, _ => none

def hd0 (ks : List Nat) : Nat := List.rec (motive := fun _ => Nat) 10 (fun k _ _ => k) ks

/-- Two values of a type whose cells are of some kinds. -/
def eqV (agg : Bool) (ks : List Nat) (x y : AV) : Option Bool :=
  ifb agg (x.aggK fun xs => y.aggK fun ys => eqK ks xs ys) (cellEq (hd0 ks) x y)

/-- Is a value nil? 0 pointer, 1 slice, 2 map, 3 function, 4 interface. -/
def nilOf (k : Nat) (v : AV) : Option Bool :=
  ifb (Nat.beq k 0) (match v with | .ptr a => some a.isNone | _ => none)
    (ifb (Nat.beq k 1) (v.slK fun a _ _ _ _ => some a.isNone)
      (ifb (Nat.beq k 2) (v.mapK fun a => some a.isNone)
        (ifb (Nat.beq k 3) (match v with | .nilFn => some true | .fn _ _ _ => some false | .yld _ => some false | _ => none)
          (match v with | .nilIface => some true | .iface _ _ => some false | _ => none))))

def fillC (τ : Fr AV) (cells : List AV) (ps : List (Nat × Nat × Opd)) : Option (List AV) :=
  List.rec (motive := fun _ => List AV → Option (List AV)) (fun cells => some cells)
    (fun p _ ih cells => ifb (p.2.2.ev τ).isDef (ifb (Nat.beq (p.2.2.ev τ).cells.length p.2.1) ((over cells p.1 (p.2.2.ev τ).cells).obind ih) none) none) ps cells

def repN {α : Type} (n : Nat) (l : List α) : List α := Nat.rec (motive := fun _ => List α) [] (fun _ ih => l ++ ih) n

def asBytes (l : List AV) : Option (List UInt8) :=
  List.rec (motive := fun _ => Option (List UInt8)) (some [])
    (fun v _ ih => v.intK fun k n => ifb (beqK k .u8) (ih.obind fun r => some (UInt8.ofNat n.toNat :: r)) none) l

def byteV (b : UInt8) : AV := .int .u8 (.ofNat b.toNat)

/-- A bound from 0 to m. -/
def bound (m : Nat) (v : AV) : Option Nat := v.intK fun _ i => ifb (ileb 0 i) (ifb (ileb i (.ofNat m)) (some i.toNat) none) none

def boundO (τ : Fr AV) (m dflt : Nat) (x : Option Opd) : Option Nat :=
  match x with
  | none => some dflt
  | some x => bound m (x.ev τ)

def findK (agg : Bool) (ks : List Nat) (k : AV) (es : List (AV × AV)) : Option (Option AV) :=
  List.rec (motive := fun _ => Option (Option AV)) (some none)
    (fun e _ ih => (eqV agg ks k e.1).obind fun t => ih.obind fun r => ifb t (some (some e.2)) (some r)) es

def putK (agg : Bool) (ks : List Nat) (k v : AV) (es : List (AV × AV)) : Option (List (AV × AV)) :=
  List.rec (motive := fun _ => Option (List (AV × AV))) (some [(k, v)])
    (fun e es ih => (eqV agg ks k e.1).obind fun t => ifb t ((findK agg ks k es).obind fun _ => some ((k, v) :: es)) (ih.obind fun r => some (e :: r))) es

inductive Out where
  | val (v : AV) (H : AH)
  | skip (H : AH)
  | call (f : AV) (args : List AV)

def newSl (H : AH) (n esz : Nat) (cs : List AV) (ty : Nat := 0) : Option Out := some (.val (.sl (some (H.next, 0)) n n false esz) (H.alloc (.cells false cs ty)))

/-- An append of n elements, whose cells are ws, to a slice that is not nil. -/
def appendAt (H : AH) (b o len cap : Nat) (exact : Bool) (esz bytes ety n : Nat) (ws : List AV) : Option Out :=
  ifb (Nat.ble (len + n) cap)
    ((H.st b (o + len * esz) ws).obind fun H' => some (.val (.sl (some (b, o)) (len + n) cap exact esz) H'))
    (ifb (Nat.ble ((len + n + 1000) * bytes) 35184372088832)
      ((H.ld b o (len * esz)).obind fun old => ifb exact (newSl H (len + n) esz (old ++ ws) ety) (ifb (allOne ws) ((H.kill b).obind fun H' => newSl H' (len + n) esz (old ++ ws) (ifb (Nat.beq (H.tyOf b) ety) (ifb (Nat.beq o 0) ety 0) 0)) none))
      none)

def appendV (H : AH) (s : AV) (esz bytes ety n : Nat) (ws : List AV) : Option Out :=
  s.slK fun a len cap exact esz' =>
    match a with
    | none => ifb (Nat.beq len 0) (ifb (Nat.beq n 0) (some (.val s H)) (ifb (Nat.ble ((n + 1000) * bytes) 35184372088832) (newSl H n esz ws ety) none)) none
    | some (b, o) => ifb (Nat.beq esz' esz) (ifb (Nat.beq n 0) (some (.val s H)) (appendAt H b o len cap exact esz bytes ety n ws)) none

/-- The cells and the number of elements of what is appended or copied. -/
def srcCells (H : AH) (esz : Nat) (v : AV) : Option (Nat × List AV) :=
  match v with
  | .sl none len _ _ _ => ifb (Nat.beq len 0) (some (0, [])) none
  | .sl (some (b, o)) len _ _ esz' => ifb (Nat.beq esz' esz) ((H.ld b o (len * esz)).obind fun cs => some (len, cs)) none
  | .str s => ifb (Nat.beq esz 1) (some (s.length, s.map byteV)) none
  | _ => none

def minmaxV (mx : Bool) (x : AV) (l : List AV) : Option AV :=
  List.rec (motive := fun _ => AV → Option AV) (fun x => some x)
    (fun y _ ih x => x.intK fun k a => y.intK fun k' b => ifb (beqK k k') (ih (.int k (ifb mx (ifb (iltb a b) b a) (ifb (iltb b a) b a)))) none) l x

def valK (H : AH) (v : Option AV) : Option Out := v.obind fun v => some (.val v H)

def rMove (x : Opd) (τ : Fr AV) (H : AH) : Option Out := some (.val (x.ev τ) H)
def rPick (c a b : Opd) (τ : Fr AV) (H : AH) : Option Out := (c.ev τ).boolK fun t => some (.val (ifb t (a.ev τ) (b.ev τ)) H)
def rAlloc (zero : List AV) (ty : Nat) (_ : Fr AV) (H : AH) : Option Out := some (.val (.ptr (some (H.next, 0))) (H.alloc (.cells false zero ty)))
def rBox (x : Opd) (τ : Fr AV) (H : AH) : Option Out := ifb (x.ev τ).isDef (some (.val (.ptr (some (H.next, 0))) (H.alloc (.cells false (x.ev τ).cells)))) none
def rBuild (zero : List AV) (parts : List (Nat × Nat × Opd)) (τ : Fr AV) (H : AH) : Option Out := (fillC τ zero parts).obind fun cs => some (.val (.agg cs) H)
def rBuildSlice (zero : List AV) (esz len : Nat) (parts : List (Nat × Nat × Opd)) (τ : Fr AV) (H : AH) : Option Out :=
  (fillC τ (repN len zero) parts).obind fun cs => some (.val (.sl (some (H.next, 0)) len len true esz) (H.alloc (.cells false cs)))
def rLoad (x : Opd) (τ : Fr AV) (H : AH) : Option Out := (x.ev τ).ptrK fun b o => valK H (H.ld1 b o)
def rLoadAgg (n : Nat) (x : Opd) (τ : Fr AV) (H : AH) : Option Out := (x.ev τ).ptrK fun b o => (H.ld b o n).obind fun vs => some (.val (.agg vs) H)
def rStore (n : Nat) (a v : Opd) (τ : Fr AV) (H : AH) : Option Out :=
  (a.ev τ).ptrK fun b o => ifb (Nat.beq (v.ev τ).cells.length n) ((H.st b o (v.ev τ).cells).obind fun H' => some (.skip H')) none
def rNilCheck (x : Opd) (τ : Fr AV) (H : AH) : Option Out :=
  match x.ev τ with
  | .ptr (some a) => some (.val (.ptr (some a)) H)
  | .fn f a b => some (.val (.fn f a b) H)
  | .yld l => some (.val (.yld l) H)
  | .sl a b c d e => some (.val (.sl a b c d e) H)
  | _ => none
def rBin (op : BinOp) (x y : Opd) (τ : Fr AV) (H : AH) : Option Out := valK H (bin op (x.ev τ) (y.ev τ))
def rEqB (neg : Bool) (x y : Opd) (τ : Fr AV) (H : AH) : Option Out := (x.ev τ).boolK fun s => (y.ev τ).boolK fun t => some (.val (.bool (xor neg (not (xor s t)))) H)
def rEqAgg (neg : Bool) (ks : List Nat) (x y : Opd) (τ : Fr AV) (H : AH) : Option Out :=
  (eqV true ks (x.ev τ) (y.ev τ)).obind fun t => some (.val (.bool (xor neg t)) H)
def rEqNil (k : Nat) (neg : Bool) (x y : Opd) (τ : Fr AV) (H : AH) : Option Out :=
  (nilOf k (x.ev τ)).obind fun s => (nilOf k (y.ev τ)).obind fun t => ifb (or s t) (some (.val (.bool (xor neg (and s t))) H)) none
def rUn (op : UnOp) (x : Opd) (τ : Fr AV) (H : AH) : Option Out := valK H (un op (x.ev τ))
def rConvInt (k : IntKind) (x : Opd) (τ : Fr AV) (H : AH) : Option Out := (x.ev τ).intK fun _ n => some (.val (.int k (wrapK k n)) H)
def rConvStr (x : Opd) (τ : Fr AV) (H : AH) : Option Out := (x.ev τ).strK fun s => some (.val (.str s) H)
def rBytesToStr (x : Opd) (τ : Fr AV) (H : AH) : Option Out :=
  (x.ev τ).slK fun a len _ _ esz =>
    match a with
    | none => some (.val (.str []) H)
    | some (b, o) => ifb (Nat.beq esz 1) ((H.ld b o len).obind fun vs => (asBytes vs).obind fun s => some (.val (.str s) H)) none
def rStrToBytes (x : Opd) (τ : Fr AV) (H : AH) : Option Out :=
  (x.ev τ).strK fun s => newSl H s.length 1 (s.map byteV)
def rMkIface (t : Nat) (x : Opd) (τ : Fr AV) (H : AH) : Option Out := some (.val (.iface t (x.ev τ)) H)
def rMkFn (f : Nat) (first cap : List Opd) (τ : Fr AV) (H : AH) : Option Out := some (.val (.fn f (first.map (Opd.ev τ)) (cap.map (Opd.ev τ))) H)
def rMkMap (_ : Fr AV) (H : AH) : Option Out := some (.val (.map (some H.next)) (H.alloc (.map [])))
def rMkSlice (zero : List AV) (esz bytes : Nat) (len cap : Opd) (τ : Fr AV) (H : AH) : Option Out :=
  (len.ev τ).intK fun _ l => (cap.ev τ).intK fun _ c =>
    ifb (and (and (ileb 0 l) (ileb l c)) (and (ileb c 1000000000) (Nat.ble bytes 4096)))
      (some (.val (.sl (some (H.next, 0)) l.toNat c.toNat true esz) (H.alloc (.cells false (repN c.toNat zero))))) none
def rSliceStr (x : Opd) (lo hi : Option Opd) (τ : Fr AV) (H : AH) : Option Out :=
  (x.ev τ).strK fun s => (boundO τ s.length s.length hi).obind fun h => (boundO τ h 0 lo).obind fun l => some (.val (.str ((s.take h).drop l)) H)
def rSliceSl2 (esz : Nat) (a : Option (Nat × Nat)) (cap : Nat) (exact : Bool) (esz' l h m : Nat) (H : AH) : Option Out :=
  match a with
  | none => ifb (Nat.beq cap 0) (some (.val (.sl none 0 0 true 0) H)) none
  | some (b, o) => ifb (Nat.beq esz esz') (some (.val (.sl (some (b, o + l * esz)) (h - l) (m - l) exact esz) H)) none
def rSliceSl (esz : Nat) (x : Opd) (lo hi mx : Option Opd) (τ : Fr AV) (H : AH) : Option Out :=
  (x.ev τ).slK fun a len cap exact esz' =>
    (boundO τ cap cap mx).obind fun m => (boundO τ m (ifb mx.isSome m len) hi).obind fun h => (boundO τ h 0 lo).obind fun l =>
      rSliceSl2 esz a cap (or mx.isSome exact) esz' l h m H
def rSliceArr (n esz : Nat) (x : Opd) (lo hi : Option Opd) (τ : Fr AV) (H : AH) : Option Out :=
  (x.ev τ).ptrK fun b o => (boundO τ n n hi).obind fun h => (boundO τ h 0 lo).obind fun l => (H.ld b o (n * esz)).obind fun _ => some (.val (.sl (some (b, o + l * esz)) (h - l) (n - l) true esz) H)
def rFieldAddr (off : Nat) (x : Opd) (τ : Fr AV) (H : AH) : Option Out := (x.ev τ).ptrK fun b o => some (.val (.ptr (some (b, o + off))) H)
def partV (off : Nat) (agg : Option Nat) (cs : List AV) : Option AV :=
  match agg with
  | some n => (takeN n (dropN off cs)).obind fun vs => some (.agg vs)
  | none => nth cs off
def rField (off : Nat) (agg : Option Nat) (x : Opd) (τ : Fr AV) (H : AH) : Option Out := (x.ev τ).aggK fun cs => valK H (partV off agg cs)
def rIdxAddrArr (n esz : Nat) (x i : Opd) (τ : Fr AV) (H : AH) : Option Out :=
  (x.ev τ).ptrK fun b o => (i.ev τ).intK fun _ j => ifb (and (ileb 0 j) (iltb j (.ofNat n))) (some (.val (.ptr (some (b, o + j.toNat * esz))) H)) none
def rIdxAddrSl (esz : Nat) (x i : Opd) (τ : Fr AV) (H : AH) : Option Out :=
  (x.ev τ).slK fun a len _ _ esz' => a.obind fun p => (i.ev τ).intK fun _ j =>
    ifb (Nat.beq esz esz') (ifb (and (ileb 0 j) (iltb j (.ofNat len))) (some (.val (.ptr (some (p.1, p.2 + j.toNat * esz))) H)) none) none
def rIdxArr (n esz : Nat) (agg : Bool) (x i : Opd) (τ : Fr AV) (H : AH) : Option Out :=
  (x.ev τ).aggK fun cs => (i.ev τ).intK fun _ j =>
    ifb (and (ileb 0 j) (iltb j (.ofNat n))) (valK H (partV (j.toNat * esz) (ifb agg (some esz) none) cs)) none
def rIdxStr (x i : Opd) (τ : Fr AV) (H : AH) : Option Out :=
  (x.ev τ).strK fun s => (i.ev τ).intK fun _ j => ifb (ileb 0 j) ((nth s j.toNat).obind fun b => some (.val (byteV b) H)) none
def foundV (zero : AV) (ok : Bool) (r : Option AV) : AV :=
  match r with
  | some v => ifb ok (.tup [v, .bool true]) v
  | none => ifb ok (.tup [zero, .bool false]) zero
def rLookup (agg : Bool) (ks : List Nat) (zero : AV) (ok : Bool) (m k : Opd) (τ : Fr AV) (H : AH) : Option Out :=
  (eqV agg ks (k.ev τ) (k.ev τ)).obind fun _ => (m.ev τ).mapK fun r =>
    match r with
    | none => some (.val (foundV zero ok none) H)
    | some r => (H.view r).obind fun x => x.mapK fun es => (findK agg ks (k.ev τ) es).obind fun r => some (.val (foundV zero ok r) H)
def rMapUpdate (agg : Bool) (ks : List Nat) (m k v : Opd) (τ : Fr AV) (H : AH) : Option Out :=
  (eqV agg ks (k.ev τ) (k.ev τ)).obind fun _ => (m.ev τ).mapK fun r => r.obind fun r => (H.view r).obind fun x => x.mapK fun es =>
    ifb (H.may r) ((putK agg ks (k.ev τ) (v.ev τ) es).obind fun es' => some (.skip (H.setB r (.map es')))) none
def rExtract (x : Opd) (i : Nat) (τ : Fr AV) (H : AH) : Option Out := (x.ev τ).tupK fun vs => valK H (nth vs i)
def rCall (f : Opd) (args : List Opd) (τ : Fr AV) (_ : AH) : Option Out := some (.call (f.ev τ) (args.map (Opd.ev τ)))
def rLen (k : Nat) (x : Opd) (τ : Fr AV) (H : AH) : Option Out :=
  ifb (Nat.beq k 0) ((x.ev τ).strK fun s => some (.val (.int .i64 (.ofNat s.length)) H))
    (ifb (Nat.beq k 1) ((x.ev τ).slK fun _ n _ _ _ => some (.val (.int .i64 (.ofNat n)) H))
      ((x.ev τ).mapK fun r => Option.rec (motive := fun _ => Option Out) (some (.val (.int .i64 0) H)) (fun r => (H.view r).obind fun x => x.mapK fun es => some (.val (.int .i64 (.ofNat es.length)) H)) r))
def rLenArr (n : Nat) (_ : Fr AV) (H : AH) : Option Out := some (.val (.int .i64 (.ofNat n)) H)
def rAppend (esz bytes ety : Nat) (s x : Opd) (τ : Fr AV) (H : AH) : Option Out :=
  (srcCells H esz (x.ev τ)).obind fun p => appendV H (s.ev τ) esz bytes ety p.1 p.2
def rCopy (esz : Nat) (d s : Opd) (τ : Fr AV) (H : AH) : Option Out :=
  (srcCells H esz (s.ev τ)).obind fun p => (d.ev τ).slK fun a len _ _ esz' =>
    match a with
    | none => ifb (Nat.beq len 0) (some (.val (.int .i64 0) H)) none
    | some (b, o) => ifb (Nat.beq esz esz') (ifb (Nat.beq (min p.1 len) 0) (some (.val (.int .i64 0) H))
        ((takeN (min p.1 len * esz) p.2).obind fun ws => (H.st b o ws).obind fun H' => some (.val (.int .i64 (.ofNat (min p.1 len))) H'))) none
def rClearSl (zero : List AV) (x : Opd) (τ : Fr AV) (H : AH) : Option Out :=
  (x.ev τ).slK fun a len _ _ _ =>
    match a with
    | none => some (.val (.tup []) H)
    | some (b, o) => ifb (Nat.beq len 0) (some (.val (.tup []) H)) ((H.st b o (repN len zero)).obind fun H' => some (.val (.tup []) H'))
def rMinmax (mx : Bool) (xs : List Opd) (τ : Fr AV) (H : AH) : Option Out :=
  match xs.map (Opd.ev τ) with
  | x :: rest => valK H (minmaxV mx x rest)
  | [] => none

def rStuck (_ : Fr AV) (_ : AH) : Option Out := none
def loadGK (H : AH) (g : Nat) (agg : Option Nat) : Option Out :=
  Option.rec (motive := fun _ => Option Out) (valK H (H.ld1 g 0)) (fun n => (H.ld g 0 n).obind fun vs => some (.val (.agg vs) H)) agg
def rLoadG (agg : Option Nat) (g : Nat) (_ : Fr AV) (H : AH) : Option Out :=
  (H.view g).obind fun x => ifb x.glb (loadGK H g agg) none
def rIdxAddrG (g n esz : Nat) (i : Opd) (τ : Fr AV) (H : AH) : Option Out :=
  (H.view g).obind fun x => ifb x.glb ((i.ev τ).intK fun _ j => ifb (and (ileb 0 j) (iltb j (.ofNat n))) (some (.val (.ptr (some (g, 0 + j.toNat * esz))) H)) none) none

def rRangeStr (x : Opd) (τ : Fr AV) (H : AH) : Option Out := (x.ev τ).strK fun s => some (.val (.ptr (some (H.next, 0))) (H.alloc (.iter s 0)))
def nextOut (H : AH) (b : Nat) (s : List UInt8) (pos : Nat) : Option Out :=
  Option.rec (motive := fun _ => Option Out) (some (.val (.tup [.bool false]) H))
    (fun c => ifb (Nat.ble 128 c.toNat) none (some (.val (.tup [.bool true, .int .i64 (.ofNat pos), .int .i32 (.ofNat c.toNat)]) (H.setB b (.iter s (Nat.add pos 1)))))) (nth s pos)
def rNextStr (x : Opd) (τ : Fr AV) (H : AH) : Option Out := (x.ev τ).ptrK fun b o => ifb (Nat.beq o 0) ((H.view b).obind fun y => y.iterK fun s pos => ifb (H.may b) (nextOut H b s pos) none) none

def opRun (o : IOp) : Fr AV → AH → Option Out :=
  IOp.rec (motive := fun _ => Fr AV → AH → Option Out) rMove rPick rAlloc rBox rBuild rBuildSlice rLoad rLoadAgg rStore rNilCheck rBin rEqB rEqAgg rEqNil rUn rConvInt rConvStr rBytesToStr rStrToBytes rMkIface rMkFn rMkMap rMkSlice rSliceStr rSliceSl rSliceArr rFieldAddr rField rIdxAddrArr rIdxAddrSl rIdxArr rIdxStr rLookup rMapUpdate rExtract rCall rLen rLenArr rAppend rCopy rClearSl rMinmax rStuck rLoadG rIdxAddrG rRangeStr rNextStr o

/-! ### The evaluator -/
inductive Task where
  | loop (c : ICode) (τ : Fr AV) (H : AH)
  | call (f : AV) (args : List AV) (H : AH)

structure Res where
  ex : Ex
  τ : Fr AV
  H : AH
  v : AV := .undef

def putD (τ : Fr AV) (d : Option Pth) (v : AV) : Fr AV :=
  Option.rec (motive := fun _ => Fr AV) τ (fun d => τ.put d v) d

def isBool (w : Bool) (v : AV) : Bool :=
  v.el false (fun b => not (xor b w)) (fun _ _ => false) (fun _ => false) (fun _ => false) (fun _ _ _ _ _ => false) (fun _ => false) (fun _ _ _ => false) (fun _ => false) false (fun _ _ => false) false (fun _ => false) (fun _ => false)

/-- Is the operation wanted? What its guard looks at must be known. -/
def wantV (v : AV) (w : Bool) : Option Bool := v.el none (fun _ => some (isBool w v)) (fun _ _ => some false) (fun _ => some false) (fun _ => some false) (fun _ _ _ _ _ => some false) (fun _ => some false) (fun _ _ _ => some false)
  (fun _ => some false) (some false) (fun _ _ => some false) (some false) (fun _ => some false) (fun _ => some false)
def wantedB (τ : Fr AV) (g : Option (Pth × Bool)) : Option Bool :=
  Option.rec (motive := fun _ => Option Bool) (some true) (fun p => wantV (τ.get p.1).ogetU p.2) g

def reach1 (v : AV) : List Nat :=
  match v with
  | .ptr (some (b, _)) => [b]
  | _ => []

/-- The blocks to which a value leads at once. -/
def reach (v : AV) : List Nat :=
  match v with
  | .ptr (some (b, _)) => [b]
  | .sl (some (b, _)) _ _ _ _ => [b]
  | .map (some b) => [b]
  | .fn _ first cap => (first ++ cap).flatMap reach1
  | _ => []

/-- Does a block lie in one of some ranges? -/
def inRg (b : Nat) (rg : List (Nat × Nat)) : Bool := List.rec (motive := fun _ => Bool) false (fun p _ ih => ifb (Nat.ble p.1 b) (ifb (Nat.ble (Nat.succ b) p.2) true ih) ih) rg

/-- The ranges at some places of a list. -/
def rgAt (ns : List (Nat × Nat)) (ds : List Nat) : List (Nat × Nat) :=
  List.rec (motive := fun _ => List (Nat × Nat)) [] (fun d _ ih => Option.rec (motive := fun _ => List (Nat × Nat)) ih (fun p => p :: ih) (nth ns d)) ds

/-- The heap as an operation of some flag may see and change it. 0: a writer · 1: a reader · 2: neither reads nor writes what was there · 3: a writer of xs alone, but for some ranges · 4: a reader of all but xs. -/
def fence (rg : List (Nat × Nat)) (xs : List Nat) (flag : Nat) (H : AH) : AH :=
  ifb (Nat.beq flag 0) H (AH.rec (motive := fun _ => AH) (fun next blk _ _ hidAt hid =>
    ifb (Nat.beq flag 1) ⟨next, blk, next, [], hidAt, hid⟩ (ifb (Nat.beq flag 2) ⟨next, blk, next, [], next, hid⟩
      (ifb (Nat.beq flag 3) ⟨next, blk, next, xs.filter (fun b => and (H.may b) (and (Nat.ble (Nat.succ b) next) (not (inRg b rg)))), hidAt, hid⟩ ⟨next, blk, next, [], hidAt, xs.filter (fun b => Nat.ble (Nat.succ b) next) ++ hid⟩))) H)

def unfence (H H' : AH) : AH :=
  AH.rec (motive := fun _ => AH) (fun _ _ lim exc hidAt hid => AH.rec (motive := fun _ => AH) (fun next blk _ _ _ _ => ⟨next, blk, lim, exc, hidAt, hid⟩) H') H

def onward (H H' : AH) (τ : Fr AV) : Option (Fr AV × AH) := ifb (Nat.ble H.next H'.next) (some (τ, H')) none

def outK (rec : Task → Option Res) (d : Option Pth) (τ : Fr AV) (H : AH) (x : Out) : Option (Fr AV × AH) :=
  Out.rec (motive := fun _ => Option (Fr AV × AH)) (fun v H' => onward H H' (putD τ d v)) (fun H' => onward H H' (putD τ d (.tup [])))
    (fun f args => (rec (.call f args H)).obind fun r => onward H r.H (putD τ d r.v)) x

def evOp (rec : Task → Option Res) (o : IOper) (τ : Fr AV) (H : AH) : Option (Fr AV × AH) :=
  (wantedB τ o.guard).obind fun t => ifb t ((opRun o.op τ H).obind (outK rec o.dst τ H)) (some (putD τ o.dst (.tup []), H))

def evOps (rec : Task → Option Res) (os : List IOper) : Fr AV → AH → Option (Fr AV × AH) :=
  List.rec (motive := fun _ => Fr AV → AH → Option (Fr AV × AH)) (fun τ H => some (τ, H))
    (fun o _ ih τ H => (evOp rec o τ H).obind fun p => ih p.1 p.2) os

/-- The blocks to which a function value's captured variables lead. -/
def cellRef (v : AV) : List Nat :=
  match v with
  | .ptr (some (b, _)) => [b]
  | .sl (some (b, _)) _ _ _ _ => [b]
  | .map (some b) => [b]
  | _ => []
def deepBlk (H : AH) (b : Nat) : List Nat :=
  match H.view b with
  | some (.cells _ vs _) => b :: vs.flatMap cellRef
  | _ => [b]
def deepRef (H : AH) (v : AV) : List Nat :=
  match v with
  | .fn _ first cap => ((first ++ cap).flatMap reach1).flatMap (deepBlk H)
  | .ptr (some (b, _)) => deepBlk H b
  | v => reach v
/-- What an operand of a fence stands for: '.g n' stands for all to which slot n leads. -/
def fenceX (H : AH) (τ₁ : Fr AV) (x : Opd) : List Nat :=
  match x with
  | .g n => deepRef H (τ₁.get (pthOf n)).ogetU
  | x => reach (x.ev τ₁)

def evDraw (rec : Task → Option Res) (X : Opd → List Nat) (os : List IOper) : List (Nat × Nat) → Fr AV → AH → Option (Fr AV × AH) :=
  List.rec (motive := fun _ => List (Nat × Nat) → Fr AV → AH → Option (Fr AV × AH)) (fun _ τ H => some (τ, H))
    (fun o _ ih ns τ H => (evOp rec o τ (fence (rgAt ns o.hide) (o.xs.flatMap X) o.flag H)).obind fun p => ih ((H.next, p.2.next) :: ns) p.1 (unfence H p.2)) os

def resV (τ : Fr AV) (H : AH) (r : IRes) : Option AV :=
  match r with
  | .tmp t => some ((τ.get t).ogetU)
  | .cell a none => ((τ.get a).ogetU).ptrK fun b o => H.ld1 b o
  | .cell a (some n) => ((τ.get a).ogetU).ptrK fun b o => (H.ld b o n).obind fun vs => some (.agg vs)

def resVs (τ : Fr AV) (H : AH) (rs : List IRes) : Option (List AV) :=
  List.rec (motive := fun _ => Option (List AV)) (some []) (fun r _ ih => (resV τ H r).obind fun v => ih.obind fun vs => some (v :: vs)) rs

def tupV (vs : List AV) : AV :=
  match vs with
  | [v] => v
  | vs => .tup vs

def frameOf (l : List AV) : Pth → Fr AV → Fr AV :=
  List.rec (motive := fun _ => Pth → Fr AV → Fr AV) (fun _ τ => τ) (fun v _ ih i τ => ih i.succ (τ.put i v)) l

def setPs : List Pth → List AV → Fr AV → Option (Fr AV)
  | [], [], τ => some τ
  | p :: ps, v :: vs, τ => setPs ps vs (τ.put p v)
  | _, _, _ => none

section
variable (rec : Task → Option Res)

def eSkip (τ : Fr AV) (H : AH) : Option Res := some { ex := .normal, τ, H }
def eExit (id : Nat) (τ : Fr AV) (H : AH) : Option Res := some { ex := .exit id, τ, H }
def eRet (τ : Fr AV) (H : AH) : Option Res := some { ex := .ret, τ, H }
def eRegion (ops : List IOper) (τ : Fr AV) (H : AH) : Option Res := (evOps rec ops τ H).obind fun p => some { ex := .normal, τ := p.1, H := p.2 }
/-- What the operations but calls give at once: a guess of the slots. -/
def outTry (d : Option Pth) (τ : Fr AV) (x : Out) : Fr AV := Out.rec (motive := fun _ => Fr AV) (fun v _ => putD τ d v) (fun _ => τ) (fun _ _ => τ) x
def evTry (H : AH) (os : List IOper) : Fr AV → Fr AV :=
  List.rec (motive := fun _ => Fr AV → Fr AV) (fun τ => τ) (fun o _ ih τ => ih (Option.rec (motive := fun _ => Fr AV) τ (outTry o.dst τ) (opRun o.op τ H))) os
def eDraw (ops : List IOper) (two : Nat) (τ : Fr AV) (H : AH) : Option Res :=
  (ifb (Nat.beq two 0) (some τ) (ifb (Nat.beq two 1) (some (evTry H ops τ)) ((evOps rec ops τ H).obind fun p => some p.1))).obind fun τ₁ => (evDraw rec (fenceX H τ₁) ops [] τ H).obind fun p => some { ex := .normal, τ := p.1, H := p.2 }
def Ex.el {β : Type} (kN : β) (kE : Nat → β) (kR : β) (e : Ex) : β := Ex.rec (motive := fun _ => β) kN kE kR e
def eThen (r : Res) (k : Fr AV → AH → Option Res) : Option Res := r.ex.el (k r.τ r.H) (fun _ => some r) (some r)
def eSeq (a b : Fr AV → AH → Option Res) (τ : Fr AV) (H : AH) : Option Res := (a τ H).obind fun r => eThen r b
def eCond (x : Opd) (a b : Fr AV → AH → Option Res) (τ : Fr AV) (H : AH) : Option Res := (x.ev τ).boolK fun t => ifb t (a τ H) (b τ H)
def eEnd (id : Nat) (r : Res) : Option Res := r.ex.el (some r) (fun id' => ifb (Nat.beq id' id) (some { r with ex := .normal }) (some r)) (some r)
def eBlock (id : Nat) (c : Fr AV → AH → Option Res) (τ : Fr AV) (H : AH) : Option Res := (c τ H).obind (eEnd id)
def eLoop (c : ICode) (a : Fr AV → AH → Option Res) (τ : Fr AV) (H : AH) : Option Res := (a τ H).obind fun r => eThen r fun τ H => rec (.loop c τ H)
def eRange2 (l : Nat) (τ : Fr AV) (H : AH) (x : ABlk) : Option Res :=
  x.loopK fun st pend τ' ps asg body =>
    ifb (Nat.beq st 0) (Option.rec (motive := fun _ => Option Res) (some { ex := .normal, τ, H := H.setB l (.loop 3 none τ' ps asg body) }) (fun _ => none) pend)
      (ifb (Nat.beq st 2) (pend.obind fun e => some { ex := e, τ, H := H.setB l (.loop 3 (some e) τ' ps asg body) }) none)
def eRange1 (f : Opd) (ps : List Pth) (asg body : ICode) (τ : Fr AV) (H : AH) : Option Res :=
  (rec (.call (f.ev τ) [.yld H.next] (H.alloc (.loop 0 none τ ps asg body)))).obind fun r => ifb (Nat.ble (Nat.succ H.next) r.H.next) ((r.H.view H.next).obind fun x => eRange2 H.next τ r.H x) none
def isFn (v : AV) : Bool :=
  v.el false (fun _ => false) (fun _ _ => false) (fun _ => false) (fun _ => false) (fun _ _ _ _ _ => false) (fun _ => false) (fun _ _ _ => true) (fun _ => false) false (fun _ _ => false) false (fun _ => false) (fun _ => false)
def eRange (f : Opd) (ps : List Pth) (asg body : ICode) (τ : Fr AV) (H : AH) : Option Res :=
  ifb (isFn (f.ev τ)) (eRange1 rec f ps asg body τ H) none

def evCode (c : ICode) : Fr AV → AH → Option Res :=
  ICode.rec (motive := fun _ => Fr AV → AH → Option Res) eSkip (eRegion rec) (eDraw rec) (fun _ _ => eSeq) (fun x _ _ => eCond x) (fun id _ => eBlock id) (fun c => eLoop rec c)
    (fun f ps asg body _ _ => eRange rec f ps asg body) eExit eRet (fun _ _ => none) (fun _ ih => ih) c

def eBack (fn : IFunc) (r : Res) : Option Res :=
  r.ex.el ((resVs r.τ r.H fn.results).obind fun vs => some { r with v := tupV vs }) (fun _ => none) ((resVs r.τ r.H fn.results).obind fun vs => some { r with v := tupV vs })

def evFn (FT : Nat → Option IFunc) (k : Nat) (args : List AV) (H : AH) : Option Res :=
  (FT k).obind fun fn => (evCode rec fn.body (frameOf args .e .nil) H).obind (eBack fn)

def eRound2 (l : Nat) (r : Res) : Option Res :=
  (r.H.view l).obind fun x => x.loopK fun st _ τ ps asg body =>
    ifb (Nat.beq st 1) (r.ex.el
      (some { ex := .normal, τ := .nil, H := r.H.setB l (.loop 0 none τ ps asg body), v := .bool true })
      (fun id => some { ex := .normal, τ := .nil, H := r.H.setB l (.loop 2 (some (.exit id)) τ ps asg body), v := .bool false })
      (some { ex := .normal, τ := .nil, H := r.H.setB l (.loop 2 (some .ret) τ ps asg body), v := .bool false })) none
def eRound1 (l : Nat) (body₀ : ICode) (r : Res) : Option Res :=
  r.ex.el ((r.H.view l).obind fun x => x.loopK fun st pend τ ps asg body =>
    ifb (Nat.beq st 0) (ifb (r.H.may l) ((evCode rec body₀ r.τ (r.H.setB l (.loop 1 pend τ ps asg body))).obind (eRound2 l)) none) none) (fun _ => none) none
def evYield (l : Nat) (args : List AV) (H : AH) : Option Res :=
  (H.view l).obind fun x => x.loopK fun st _ τ ps asg body =>
    ifb (Nat.beq st 0) (ifb (H.may l) ((setPs ps args τ).obind fun τ₁ => (evCode rec asg τ₁ H).obind (eRound1 rec l body)) none) none

def evCall (FT : Nat → Option IFunc) (f : AV) (args : List AV) (H : AH) : Option Res :=
  f.el none (fun _ => none) (fun _ _ => none) (fun _ => none) (fun _ => none) (fun _ _ _ _ _ => none) (fun _ => none) (fun k first cap => evFn rec FT k (first ++ args ++ cap) H)
    (fun l => evYield rec l args H) none (fun _ _ => none) none (fun _ => none) (fun _ => none)

/-- Who answers a call without its being made; none: it is made. -/
def orElse2 (o d : Option Res) : Option Res := Option.rec (motive := fun _ => Option Res) d (fun r => some r) o
def evStep (O : AV → List AV → AH → Option Res) (FT : Nat → Option IFunc) (t : Task) : Option Res :=
  Task.rec (motive := fun _ => Option Res) (fun c τ H => eLoop rec c (evCode rec c) τ H) (fun f args H => orElse2 (O f args H) (evCall rec FT f args H)) t
end

def ev (O : AV → List AV → AH → Option Res) (FT : Nat → Option IFunc) (n : Nat) : Task → Option Res :=
  Nat.rec (motive := fun _ => Task → Option Res) (fun _ => none) (fun _ ih t => evStep ih O FT t) n

def AH.start (n : Nat) : AH := { next := n, blk := .nil, lim := 0, exc := [], hidAt := 0, hid := [] }

def isTrue (r : Option Res) : Bool :=
  match r with
  | some r => isBool true r.v
  | none => false

def noO : AV → List AV → AH → Option Res := fun _ _ _ => none

def yes (O : AV → List AV → AH → Option Res) (FT : Nat → Option IFunc) (n f g : Nat) : Bool := isTrue (ev O FT n (.call (.fn f [] []) [] (AH.start g)))

end
end Go.Ai
