/- The D-machine, part B: slot values, named objects, the state, the operations and what they do to the state. Conditions: none. -/
import Derived.Test.YtecgedikabjcdaaDmA
set_option linter.unusedVariables false
namespace Go.DM

/-- What a slot holds. -/
inductive DV where
  | undef
  | skip                                                   -- what an operation that was passed over leaves
  | v (t : T)
  | nil0                                                   -- a slice with length 0 and capacity 0
  | ptr (r off : Nat)                                      -- a cell of the box named r
  | aref (r ver : Nat)                                     -- the slice over the array named r, at its version
  | tptr (rows : List (List T)) (i : Int) (off : Nat)      -- a cell of row i of a slice that is never written
  | bptr (cs : List T) (off : Nat)                         -- a cell of a box that is never written
  | aptr (r ver : Nat) (i : Int) (off : Nat)               -- a cell of row i of the array named r
  | agg (cs : List DV)
  | yld                                                    -- the function that a range over a function hands to its iterator

instance : Inhabited DV := ⟨.undef⟩

/-- A named object that may be written. -/
inductive Ob where
  | box (cs : List DV)
  | arr (ver e sz : Nat) (rows : List (List T))

abbrev Obs := Nat → Option Ob

/-- The state: the slots, the objects, the number from which new names are made; the number from which on names are the run's own; what is still to be handed to a loop's body. -/
structure DSt where
  tmps : Nat → DV
  objs : Obs
  nxt : Nat
  low : Nat
  todo : List (List T)

/-- An operand: a slot or a constant. -/
inductive Opd where
  | tmp (t : Nat)
  | con (d : DV)

def Opd.ev (ρ : Nat → DV) : Opd → DV
  | .tmp t => ρ t
  | .con d => d

/-- What a call leaves that may write: what must hold, the answer, the objects. -/
structure SRes where
  ok : Prop
  val : DV
  objs : Obs

/-- A function's contract: where it may be called, and what it answers. 'scalar': the answer holds no memory, so an array may be lent to the call. 'st': the contract of a function that may write. -/
structure Spec where
  pre : List T → Prop
  fn : List T → T
  scalar : Bool
  st : Option (List DV → Obs → SRes) := none

abbrev Env := FuncId → Option Spec

/-- The shape of a type whose values are compared cell by cell. -/
inductive Sh where
  | bool | int (k : IntKind) | str
def shOk : Sh → T → Bool
  | .bool, .bool _ => true
  | .int k, .int k' _ => k == k'
  | .str, .str _ => true
  | _, _ => false

def fitsT : List Sh → List T → Prop
  | [], ts => ts = []
  | s :: ss, t :: ts => shOk s t = true ∧ fitsT ss ts
  | _ :: _, [] => False

inductive DOp where
  | mov (x : Opd)
  | pick (c a b : Opd)
  | alloc (zero : List DV)
  | box (x : Opd)
  | build (zero : List DV) (parts : List (Nat × Nat × Opd))
  | bslice (len sz : Nat) (zero : List DV) (parts : List (Nat × Nat × Opd))
  | load (n : Nat) (agg : Bool) (x : Opd)
  | store (n : Nat) (x y : Opd)
  | bin (op : BinOp) (x y : Opd)
  | eqT (neg agg : Bool) (shs : List Sh) (x y : Opd)
  | un (op : UnOp) (x : Opd)
  | conv (k : IntKind) (x : Opd)
  | addOff (k : Nat) (x : Opd)
  | nilCheck (x : Opd)
  | idxAddr (sz : Nat) (x i : Opd)
  | arrAddr (len sz : Nat) (x i : Opd)
  | field (off n : Nat) (agg : Bool) (x : Opd)
  | slice (sz : Nat) (x : Opd) (lo hi : Option Opd)
  | extract (i : Nat) (x : Opd)
  | call (f : FuncId) (args : List Opd)
  | callS (f : FuncId) (args : List Opd)
  | callv (x : Opd) (args : List Opd)
  | len (x : Opd)
  | lenS (x : Opd)
  | minmax (isMax : Bool) (x y : Opd)
  | append (e sz bytes : Nat) (x y : Opd)
  | mkSlice (e sz bytes : Nat) (zero : List T) (n : Opd)
  | mkFn (f : Fn) (caps : List Opd)

/-- The effect of an operation: what must hold, the value, the object that it lays or turns. -/
structure Eff where
  ok : Prop
  val : DV
  put : Option (Nat × Ob) := none

def bad : Eff := ⟨False, .undef, none⟩

def leafT : T → Bool
  | .agg _ | .tup _ => false
  | .raw v => v.oneCell'
  | _ => true

/-- The cells of a value. -/
def cellsOf : DV → List DV
  | .v (.agg cs) => cs.map .v
  | .agg cs => cs
  | d => [d]

/-- May this value be a variable's value? -/
def boxable : DV → Prop
  | .undef => False
  | .skip => False
  | .v (.tup _) => False
  | .v (.raw x) => x.oneCell' = true
  | _ => True

mutual
/-- The tree that a value reads as. -/
def tOf (objs : Obs) : DV → T
  | .v t => t
  | .nil0 => .sl []
  | .aref r _ => match objs r with | some (.arr _ _ _ rows) => .sl rows | _ => .sl []
  | .agg cs => .agg (tOfs objs cs)
  | _ => .raw undef
def tOfs (objs : Obs) : List DV → List T
  | [] => []
  | d :: ds => tOf objs d :: tOfs objs ds
end

mutual
/-- It reads as a tree that shares nothing with an array that may be written (lend = false), or may share for the time of a call (lend = true). -/
def tOk (lend : Bool) (objs : Obs) : DV → Prop
  | .v _ => True
  | .nil0 => True
  | .aref r ver => lend = true ∧ match objs r with | some (.arr ver' _ _ _) => ver = ver' | _ => False
  | .agg cs => tOks lend objs cs
  | _ => False
def tOks (lend : Bool) (objs : Obs) : List DV → Prop
  | [] => True
  | d :: ds => tOk lend objs d ∧ tOks lend objs ds
end

def pureCell : DV → Prop
  | .v t => leafT t = true
  | .nil0 => True
  | _ => False
def pureCells : List DV → Prop
  | [] => True
  | d :: ds => pureCell d ∧ pureCells ds

/-- May this stand in a cell? -/
def cellable : DV → Prop
  | .undef => False
  | .skip => False
  | .v t => leafT t = true
  | .agg _ => False
  | _ => True
def cellables : List DV → Prop
  | [] => True
  | d :: ds => cellable d ∧ cellables ds

def splice {α : Type} (l : List α) (off : Nat) (new : List α) : List α := l.take off ++ new ++ l.drop (off + new.length)

/-- Parts of a literal laid over its zero cells. -/
def fillD (cells : List DV) : List (Nat × Nat × DV) → List DV
  | [] => cells
  | (off, _, d) :: ps => fillD (splice cells off (cellsOf d)) ps
def fillOk (n : Nat) : List (Nat × Nat × DV) → Prop
  | [] => True
  | (off, sz, d) :: ps => (cellsOf d).length = sz ∧ off + sz ≤ n ∧ cellables (cellsOf d) ∧ fillOk n ps

def rowAt (rows : List (List T)) (i : Int) : List T := rows.getD i.toNat []

def chunk (sz : Nat) : Nat → List T → List (List T)
  | 0, _ => []
  | n + 1, cs => cs.take sz :: chunk sz n (cs.drop sz)

def loadSem (n : Nat) (agg : Bool) (objs : Obs) : DV → Eff
  | .ptr r off => match objs r with
    | some (.box cs) => ⟨off + n ≤ cs.length ∧ (agg = true ∨ n = 1), if agg then .agg ((cs.drop off).take n) else cs.getD off .undef, none⟩
    | _ => bad
  | .tptr rows i off => ⟨off + n ≤ (rowAt rows i).length ∧ (agg = true ∨ n = 1), if agg then .v (.agg (((rowAt rows i).drop off).take n)) else .v ((rowAt rows i).getD off default), none⟩
  | .bptr cs off => ⟨off + n ≤ cs.length ∧ (agg = true ∨ n = 1), if agg then .v (.agg ((cs.drop off).take n)) else .v (cs.getD off default), none⟩
  | .v (.box cs) => ⟨n ≤ cs.length ∧ (agg = true ∨ n = 1), if agg then .v (.agg (cs.take n)) else .v (cs.getD 0 default), none⟩
  | .aptr r ver i off => match objs r with
    | some (.arr ver' _ _ rows) => ⟨ver = ver' ∧ off + n ≤ (rowAt rows i).length ∧ (agg = true ∨ n = 1), if agg then .v (.agg (((rowAt rows i).drop off).take n)) else .v ((rowAt rows i).getD off default), none⟩
    | _ => bad
  | _ => bad

def storeSem (n : Nat) (objs : Obs) (y : DV) : DV → Eff
  | .ptr r off => match objs r with
    | some (.box cs) => ⟨(cellsOf y).length = n ∧ off + n ≤ cs.length ∧ cellables (cellsOf y), .undef, some (r, .box (splice cs off (cellsOf y)))⟩
    | _ => bad
  | .aptr r ver i off => match objs r with
    | some (.arr ver' e sz rows) => ⟨ver = ver' ∧ (cellsOf y).length = n ∧ off + n ≤ sz ∧ pureCells (cellsOf y), .undef,
        some (r, .arr ver' e sz (rows.set i.toNat (splice (rowAt rows i) off (tOfs objs (cellsOf y)))))⟩
    | _ => bad
  | _ => bad

def binSem (op : BinOp) : DV → DV → Eff
  | .v (.int k a), .v (.int k' b) => match op with
    | .add => ⟨k = k', .v (.int k (k.wrap (a + b))), none⟩
    | .sub => ⟨k = k', .v (.int k (k.wrap (a - b))), none⟩
    | .mul => ⟨k = k', .v (.int k (k.wrap (a * b))), none⟩
    | .quo => ⟨k = k' ∧ b ≠ 0, .v (.int k (k.wrap (a.tdiv b))), none⟩
    | .rem => ⟨k = k' ∧ b ≠ 0, .v (.int k (a.tmod b)), none⟩
    | .eql => ⟨k = k', .v (.bool (decide (a = b))), none⟩
    | .neq => ⟨k = k', .v (.bool (!decide (a = b))), none⟩
    | .lss => ⟨k = k', .v (.bool (decide (a < b))), none⟩
    | .leq => ⟨k = k', .v (.bool (decide (a ≤ b))), none⟩
    | .gtr => ⟨k = k', .v (.bool (decide (b < a))), none⟩
    | .geq => ⟨k = k', .v (.bool (decide (b ≤ a))), none⟩
    | .shl => ⟨0 ≤ b, .v (.int k (k.wrap (a * 2 ^ min b.toNat k.bits))), none⟩
    | .shr => ⟨0 ≤ b, .v (.int k (a / 2 ^ min b.toNat k.bits)), none⟩
    | .and => ⟨k = k', .v (.int k (k.wrap (BitVec.ofInt k.bits a &&& BitVec.ofInt k.bits b).toNat)), none⟩
    | .or => ⟨k = k', .v (.int k (k.wrap (BitVec.ofInt k.bits a ||| BitVec.ofInt k.bits b).toNat)), none⟩
    | .xor => ⟨k = k', .v (.int k (k.wrap (BitVec.ofInt k.bits a ^^^ BitVec.ofInt k.bits b).toNat)), none⟩
    | _ => bad
  | _, _ => bad

mutual
/-- Equality of trees that are compared cell by cell. -/
def eqTB : T → T → Bool
  | .bool a, .bool b => a == b
  | .int _ a, .int _ b => decide (a = b)
  | .str a, .str b => decide (a = b)
  | .agg as, .agg bs => eqTBs as bs
  | _, _ => false
def eqTBs : List T → List T → Bool
  | [], [] => true
  | a :: as, b :: bs => eqTB a b && eqTBs as bs
  | _, _ => false
end

def eqSem (neg agg : Bool) (shs : List Sh) : T → T → Eff
  | .agg as, .agg bs => ⟨agg = true ∧ fitsT shs as ∧ fitsT shs bs, .v (.bool (neg ^^ eqTBs as bs)), none⟩
  | a, b => ⟨agg = false ∧ fitsT shs [a] ∧ fitsT shs [b], .v (.bool (neg ^^ eqTB a b)), none⟩

def unSem (op : UnOp) : DV → Eff
  | .v (.bool b) => match op with
    | .not => ⟨True, .v (.bool (!b)), none⟩
    | _ => bad
  | .v (.int k n) => match op with
    | .neg => ⟨True, .v (.int k (k.wrap (-n))), none⟩
    | _ => bad
  | _ => bad

def addOffSem (k : Nat) : DV → Eff
  | .ptr r off => ⟨True, .ptr r (off + k), none⟩
  | .tptr rows i off => ⟨True, .tptr rows i (off + k), none⟩
  | .bptr cs off => ⟨True, .bptr cs (off + k), none⟩
  | .v (.box cs) => ⟨True, .bptr cs k, none⟩
  | .aptr r ver i off => ⟨True, .aptr r ver i (off + k), none⟩
  | _ => bad

def nilCheckSem : DV → Eff
  | .ptr r off => ⟨True, .ptr r off, none⟩
  | .tptr rows i off => ⟨True, .tptr rows i off, none⟩
  | .bptr cs off => ⟨True, .bptr cs off, none⟩
  | .v (.box cs) => ⟨True, .v (.box cs), none⟩
  | .aptr r ver i off => ⟨True, .aptr r ver i off, none⟩
  | .v (.fn (.func f) caps) => ⟨True, .v (.fn (.func f) caps), none⟩
  | _ => bad

def idxSem (sz : Nat) (objs : Obs) : DV → DV → Eff
  | .v (.sl rows), .v (.int _ i) => ⟨0 ≤ i ∧ i < rows.length ∧ (rowAt rows i).length = sz, .tptr rows i 0, none⟩
  | .aref r ver, .v (.int _ i) => match objs r with
    | some (.arr ver' _ sz' rows) => ⟨ver = ver' ∧ sz' = sz ∧ 0 ≤ i ∧ i < rows.length, .aptr r ver i 0, none⟩
    | _ => bad
  | _, _ => bad

def arrAddrSem (len sz : Nat) : DV → DV → Eff
  | .ptr r off, .v (.int _ i) => ⟨0 ≤ i ∧ i < len, .ptr r (off + i.toNat * sz), none⟩
  | .tptr rows j off, .v (.int _ i) => ⟨0 ≤ i ∧ i < len, .tptr rows j (off + i.toNat * sz), none⟩
  | .bptr cs off, .v (.int _ i) => ⟨0 ≤ i ∧ i < len, .bptr cs (off + i.toNat * sz), none⟩
  | .aptr r ver j off, .v (.int _ i) => ⟨0 ≤ i ∧ i < len, .aptr r ver j (off + i.toNat * sz), none⟩
  | _, _ => bad

def aggCells : DV → Option (List DV)
  | .v (.agg cs) => some (cs.map .v)
  | .agg cs => some cs
  | _ => none

def fieldSem (off n : Nat) (agg : Bool) (x : DV) : Eff :=
  match aggCells x with
  | some cs => ⟨off + n ≤ cs.length ∧ (agg = true ∨ n = 1), if agg then .agg ((cs.drop off).take n) else cs.getD off .undef, none⟩
  | none => bad

def intOf? : DV → Option Int
  | .v (.int _ n) => some n
  | _ => none

def loOf : Option DV → Option Int
  | none => some 0
  | some d => intOf? d
def hiOf (n : Int) : Option DV → Option Int
  | none => some n
  | some d => intOf? d

def sliceSem (sz : Nat) (lo hi : Option DV) : DV → Eff
  | .v (.sl rows) =>
    match loOf lo, hiOf rows.length hi with
    | some l, some h => ⟨0 ≤ l ∧ l ≤ h ∧ h ≤ rows.length ∧ (∀ r ∈ rows, r.length = sz), .v (.sl ((rows.take h.toNat).drop l.toNat)), none⟩
    | _, _ => bad
  | .nil0 =>
    match loOf lo, hiOf 0 hi with
    | some l, some h => ⟨l = 0 ∧ h = 0, .nil0, none⟩
    | _, _ => bad
  | _ => bad

def extractSem (i : Nat) : DV → Eff
  | .v (.tup ts) => ⟨i < ts.length, .v (ts.getD i default), none⟩
  | _ => bad

def lenSem (objs : Obs) : DV → Eff
  | .v (.sl rows) => ⟨True, .v (.int .i64 rows.length), none⟩
  | .nil0 => ⟨True, .v (.int .i64 0), none⟩
  | .aref r ver => match objs r with
    | some (.arr ver' _ _ rows) => ⟨ver = ver', .v (.int .i64 rows.length), none⟩
    | _ => bad
  | _ => bad

def lenSSem : DV → Eff
  | .v (.str s) => ⟨True, .v (.int .i64 s.size), none⟩
  | _ => bad

def minmaxSem (isMax : Bool) : DV → DV → Eff
  | .v (.int k a), .v (.int k' b) => ⟨k = k', .v (.int k (if isMax then max a b else min a b)), none⟩
  | _, _ => bad

/-- The rows of an append's second argument. -/
def srcRows (objs : Obs) : DV → Option (List (List T))
  | .v (.sl rows) => some rows
  | .nil0 => some []
  | .aref r ver => match objs r with
    | some (.arr ver' _ _ rows) => if ver = ver' then some rows else none
    | _ => none
  | _ => none

def roomOk (bytes n : Nat) : Prop := n * bytes ≤ 140737488355328 ∧ n ≤ 140737488355328

def appendSem (e sz bytes : Nat) (name : Nat) (objs : Obs) (x y : DV) : Eff :=
  match srcRows objs y with
  | none => bad
  | some ys =>
    match x with
    | .nil0 => ⟨(∀ r ∈ ys, r.length = sz) ∧ roomOk bytes ys.length, .aref name 0, some (name, .arr 0 e sz ys)⟩
    | .aref r ver => match objs r with
      | some (.arr ver' e' sz' rows) => ⟨ver = ver' ∧ e' = e ∧ sz' = sz ∧ (∀ r ∈ ys, r.length = sz) ∧ roomOk bytes (rows.length + ys.length), .aref r (ver + 1), some (r, .arr (ver + 1) e sz (rows ++ ys))⟩
      | _ => bad
    | _ => bad

def makeSem (e sz bytes : Nat) (zero : List T) (name : Nat) : DV → Eff
  | .v (.int _ n) => ⟨0 ≤ n ∧ zero.length = sz ∧ roomOk bytes n.toNat, .aref name 0, some (name, .arr 0 e sz (List.replicate n.toNat zero))⟩
  | _ => bad

def callSem (Γ : Env) (f : FuncId) (objs : Obs) (args : List DV) : Eff :=
  match Γ f with
  | some s => ⟨tOks s.scalar objs args ∧ s.pre (tOfs objs args), .v (s.fn (tOfs objs args)), none⟩
  | none => bad

/-- What an operation does. -/
def sem (Γ : Env) (d : DOp) (name : Nat) (ρ : Nat → DV) (objs : Obs) : Eff :=
  match d with
  | .mov x => ⟨True, x.ev ρ, none⟩
  | .pick c a b => match c.ev ρ with
    | .v (.bool t) => ⟨True, if t then a.ev ρ else b.ev ρ, none⟩
    | _ => bad
  | .alloc zero => ⟨True, .ptr name 0, some (name, .box zero)⟩
  | .box x => ⟨boxable (x.ev ρ), .ptr name 0, some (name, .box (cellsOf (x.ev ρ)))⟩
  | .build zero parts => ⟨fillOk zero.length (parts.map fun p => (p.1, p.2.1, p.2.2.ev ρ)), .agg (fillD zero (parts.map fun p => (p.1, p.2.1, p.2.2.ev ρ))), none⟩
  | .bslice len sz zero parts =>
    if len = 0 then ⟨parts = [], .nil0, none⟩ else
    ⟨fillOk (len * sz) (parts.map fun p => (p.1, p.2.1, p.2.2.ev ρ)) ∧ pureCells (fillD zero (parts.map fun p => (p.1, p.2.1, p.2.2.ev ρ))),
      .v (.sl (chunk sz len (tOfs (fun _ => none) (fillD zero (parts.map fun p => (p.1, p.2.1, p.2.2.ev ρ)))))), none⟩
  | .load n agg x => loadSem n agg objs (x.ev ρ)
  | .store n x y => storeSem n objs (y.ev ρ) (x.ev ρ)
  | .bin op x y => binSem op (x.ev ρ) (y.ev ρ)
  | .eqT neg agg shs x y => ⟨tOk true objs (x.ev ρ) ∧ tOk true objs (y.ev ρ) ∧ (eqSem neg agg shs (tOf objs (x.ev ρ)) (tOf objs (y.ev ρ))).ok, (eqSem neg agg shs (tOf objs (x.ev ρ)) (tOf objs (y.ev ρ))).val, none⟩
  | .un op x => unSem op (x.ev ρ)
  | .conv k x => match x.ev ρ with
    | .v (.int _ n) => ⟨True, .v (.int k (k.wrap n)), none⟩
    | _ => bad
  | .addOff k x => addOffSem k (x.ev ρ)
  | .nilCheck x => nilCheckSem (x.ev ρ)
  | .idxAddr sz x i => idxSem sz objs (x.ev ρ) (i.ev ρ)
  | .arrAddr len sz x i => arrAddrSem len sz (x.ev ρ) (i.ev ρ)
  | .field off n agg x => fieldSem off n agg (x.ev ρ)
  | .slice sz x lo hi => sliceSem sz (lo.map (·.ev ρ)) (hi.map (·.ev ρ)) (x.ev ρ)
  | .extract i x => extractSem i (x.ev ρ)
  | .call f args => callSem Γ f objs (args.map (·.ev ρ))
  | .callS _ _ | .callv _ _ => bad
  | .len x => lenSem objs (x.ev ρ)
  | .lenS x => lenSSem (x.ev ρ)
  | .minmax m x y => minmaxSem m (x.ev ρ) (y.ev ρ)
  | .append e sz bytes x y => appendSem e sz bytes name objs (x.ev ρ) (y.ev ρ)
  | .mkSlice e sz bytes zero n => makeSem e sz bytes zero name (n.ev ρ)
  | .mkFn f caps => ⟨pureCells (caps.map (·.ev ρ)), .v (.fn f (tOfs (fun _ => none) (caps.map (·.ev ρ)))), none⟩

/-- The operations that are told whole: calls that may write, calls of function values. -/
def is4 : DOp → Bool
  | .callS _ _ | .callv _ _ => true
  | _ => false

structure SEff where
  ok : Prop
  val : DV
  objs : Obs
  todo : List (List T)

/-- What these do. -/
def semS (Γ : Env) (d : DOp) (ρ : Nat → DV) (objs : Obs) (todo : List (List T)) : SEff :=
  match d with
  | .callS f args => match Γ f with
    | some s => match s.st with
      | some k => ⟨(k (args.map (·.ev ρ)) objs).ok, (k (args.map (·.ev ρ)) objs).val, (k (args.map (·.ev ρ)) objs).objs, todo⟩
      | none => ⟨False, .undef, objs, todo⟩
    | none => ⟨False, .undef, objs, todo⟩
  | .callv x args => match x.ev ρ with
    | .v (.fn (.func f) caps) => ⟨(callSem Γ f objs (args.map (·.ev ρ) ++ caps.map .v)).ok, (callSem Γ f objs (args.map (·.ev ρ) ++ caps.map .v)).val, objs, todo⟩
    | .yld => match todo with
      | x :: rest => ⟨tOks false objs (args.map (·.ev ρ)) ∧ tOfs objs (args.map (·.ev ρ)) = x ∧ objs = (fun _ => none), .v (.bool true), objs, rest⟩
      | [] => ⟨False, .undef, objs, todo⟩
    | _ => ⟨False, .undef, objs, todo⟩
  | _ => ⟨False, .undef, objs, todo⟩

end Go.DM
